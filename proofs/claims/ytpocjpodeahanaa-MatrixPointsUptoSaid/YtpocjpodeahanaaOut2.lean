/- The helpers of the page on what is said outright: times, inverse, rank with numbers as ints, three fields. Conditions: small sizes. -/
import Derived.Test.YtpocjpodeahanaaOut1
import Derived.Test.YtpocjpodeahanaaLawTim
import Derived.Test.YtpocjpodeahanaaInv
namespace Go.Proofs.Ytpocjpodeahanaa
open Go.RowKit

set_option maxRecDepth 20000 in
set_option maxHeartbeats 1000000 in
theorem times_E (A Bm : Option Addr) (n m cA cB : Nat) (La Lb : Nat → Nat) (G H : Nat → Nat → Fin 256) (w : World) (hn : n ≤ 1000000000000) (hLa : ∀ i, i < n → La i ≤ 1000000000000) (hm : m ≤ 1000000000000) (hLb : ∀ i, i < m → Lb i ≤ 1000000000000)
    (hA : MI w A n La fun i j => (G i j).val) (hB : MI w Bm m Lb fun i j => (H i j).val) :
    Calls Try.prog 69 #[.int .i64 256, .slice A n cA, .slice Bm m cB] w fun e w' => ∃ Av cv, e = .returned (.tuple #[.slice Av (tk n m La Lb) cv, .int .i64 (terr n m La Lb)]) ∧ MI w' Av (tk n m La Lb) (fun _ => colsN m Lb) (fun i j => (gE.mm m G H i j).val) ∧ Below w.heap.size w w' := by
  have h1 : ∀ i, i < n → La i ≤ 9223372036854775807 := fun i hi => by have := hLa i hi; omega
  have h2 : ∀ i, i < m → Lb i ≤ 9223372036854775807 := fun i hi => by have := hLb i hi; omega
  have h3 : ∀ i, i < n → La i * 8 ≤ 140737488351232 := fun i hi => by have := hLa i hi; omega
  have h4 : ∀ i, i < m → Lb i * 8 ≤ 140737488351232 := fun i hi => by have := hLb i hi; omega
  have H1 := Lib.hid h1; have H2 := Lib.hid h2; have H3 := Lib.hid h3; have H4 := Lib.hid h4
  clear h1 h2 h3 h4 hLa hLb
  have HK : Hid (tk n m La Lb ≤ 1000000) := by have := tk_le n m La Lb; show _ ≤ _; omega
  have HC : Hid (∀ i, i < tk n m La Lb → colsN m Lb ≤ 1000000) := fun i hi => by have := (tk_good hi).2.2; omega
  generalize ht : tk n m La Lb = K at *
  generalize he : terr n m La Lb = er
  have HT := Lib.hid ht; have HE := Lib.hid he
  clear ht he
  go_enter Try.func69, Try.ntmps69
  go_wp2_with fail
  refine (elemss_any A n cA La (fun i j => (G i j).val) _ (by omega) H3.out (fun i _ j _ => (G i j).isLt) hA).mono ?_
  rintro e w1 ⟨v1, S1, C1, rfl, hO1, hb1⟩
  obtain ⟨A1, c1, rfl, _, _, hE1⟩ := hO1.rdm
  have hB1 := MI.below hB hb1
  clear hA hB hO1
  go_wp2_with fail
  refine (elemss_any Bm m cB Lb (fun i j => (H i j).val) _ (by omega) H4.out (fun i _ j _ => (H i j).isLt) hB1).mono ?_
  rintro e w2 ⟨v2, S2, C2, rfl, hO2, hb2⟩
  obtain ⟨A2, c2, rfl, _, _, hE2⟩ := hO2.rdm
  have hE1' := ME.below hE1 hb2
  have hbb := hb1.trans (hb2.mono hb1.size)
  clear hB1 hE1 hb1 hb2 hO2
  go_wp2_with fail
  refine (timE_all A1 A2 n m c1 c2 La Lb (fun i j => (G i j).val) (fun i j => (H i j).val) _ (by omega) H1.out (by omega) H2.out hE1' hE2 (fun i j => (G i j).isLt) (fun i j => (H i j).isLt)).mono ?_
  rintro e w3 ⟨A3, c3, rfl, hM3, hb3⟩
  have hbb3 := hbb.trans (hb3.mono hbb.size)
  rw [HT.out] at hM3 ⊢
  rw [HE.out]
  have HM : ME w3 A3 K (fun _ => colsN m Lb) (fun i j => (gE.mm m G H i j).val) := by
    have e1 : (fun i j => dot 256 ((fun i j => (G i j).val) i) (fun u => (fun i j => (H i j).val) u j) m) = fun i j => (gE.mm m G H i j).val := by
      funext i j; exact dot_mm okE G H i j m
    rw [← e1]; exact hM3
  clear hbb hb3 hE1' hE2 hM3
  go_wp2_with fail
  refine (intsE_any A3 K c3 (fun _ => colsN m Lb) (fun i j => (gE.mm m G H i j).val) _ HK.out HC.out (fun i j => (gE.mm m G H i j).isLt) HM).mono ?_
  rintro e w4 ⟨v4, S4, C4, rfl, hO4, hb4⟩
  obtain ⟨A4, c4, rfl, _, _, hE4⟩ := hO4.rdm
  have hbF := hbb3.trans (hb4.mono hbb3.size)
  clear hb4 hbb3 HM hO4
  go_wp2
  go_ret2
  exact ⟨_, _, rfl, hE4, hbF⟩
set_option maxRecDepth 20000 in
set_option maxHeartbeats 1000000 in
theorem inverse_E (A : Option Addr) (n cA : Nat) (L : Nat → Nat) (G : Nat → Nat → Fin 256) (w : World) (hn : n ≤ 1000000000000) (hL : ∀ i, i < n → L i ≤ 1000000000000) (hA : MI w A n L fun i j => (G i j).val) :
    Calls Try.prog 74 #[.int .i64 256, .slice A n cA] w fun e w' => ∃ (er : Int) (X : Nat → Nat → Fin 256) (Av : Option Addr) (cv : Nat), e = .returned (.tuple #[.slice Av (if er = 0 then n else 0) cv, .int .i64 er]) ∧ InvP gE n L G er X ∧ Below w.heap.size w w' ∧ MI w' Av (if er = 0 then n else 0) (fun _ => n) (fun i j => (X i j).val) := by
  have h1 : ∀ i, i < n → L i ≤ 9223372036854775807 := fun i hi => by have := hL i hi; omega
  have h3 : ∀ i, i < n → L i * 8 ≤ 140737488351232 := fun i hi => by have := hL i hi; omega
  have H1 := Lib.hid h1; have H3 := Lib.hid h3
  clear h1 h3 hL
  go_enter Try.func74, Try.ntmps74
  go_wp2_with fail
  refine (elemss_any A n cA L (fun i j => (G i j).val) _ (by omega) H3.out (fun i _ j _ => (G i j).isLt) hA).mono ?_
  rintro e w1 ⟨v1, S1, C1, rfl, hO1, hb1⟩
  obtain ⟨A1, c1, rfl, _, _, hE1⟩ := hO1.rdm
  clear hA hO1
  go_wp2_with fail
  refine (invE_any A1 n c1 L G _ (by omega) H1.out hE1).mono ?_
  rintro e w3 ⟨er, X, A3, c3, rfl, hIP, hb3, hX⟩
  have hbb3 := hb1.trans (hb3.mono hb1.size)
  have hsm := hIP.small
  have HIP := Lib.hid hIP
  generalize hk : (if er = 0 then n else 0) = K at *
  have HK : Hid (K ≤ 1000000) := by have := hsm.1; show _ ≤ _; omega
  have HC : Hid (∀ i, i < K → n ≤ 1000000) := fun i hi => by
    by_cases e : er = 0
    · have := hsm.2 e; omega
    · rw [if_neg e] at hk; omega
  have HKK := Lib.hid hk
  clear hsm hIP hb1 hb3 hE1 hk
  go_wp2_with fail
  refine (intsE_any A3 K c3 (fun _ => n) (fun i j => (X i j).val) _ HK.out HC.out (fun i j => (X i j).isLt) hX).mono ?_
  rintro e w4 ⟨v4, S4, C4, rfl, hO4, hb4⟩
  obtain ⟨A4, c4, rfl, _, _, hE4⟩ := hO4.rdm
  have hbF := hbb3.trans (hb4.mono hbb3.size)
  clear hb4 hbb3 hX hO4
  go_wp2
  go_ret2
  refine ⟨er, X, A4, c4, ?_, HIP.out, hbF, ?_⟩
  · rw [HKK.out]; rfl
  · rw [HKK.out]; exact hE4
set_option maxRecDepth 20000 in
set_option maxHeartbeats 1000000 in
theorem ranks_E (A : Option Addr) (n cA : Nat) (L : Nat → Nat) (G : Nat → Nat → Fin 256) (w : World) (hn : n ≤ 1000000000000) (hL : ∀ i, i < n → L i ≤ 1000000000000) (hA : MI w A n L fun i j => (G i j).val) :
    Calls Try.prog 73 #[.int .i64 256, .slice A n cA] w fun e w' => ∃ st : Nat, e = .returned (.tuple #[.int .i64 (st : Nat), .int .i64 (faultE n L)]) ∧ Below w.heap.size w w' ∧ (faultE n L = 0 → ∃ G' p, gE.RR n (colsN n L) (colsN n L) G G' st p) := by
  generalize hfa : faultE n L = fa
  have HFA := Lib.hid hfa; clear hfa
  have h1 : ∀ i, i < n → L i ≤ 9223372036854775807 := fun i hi => by have := hL i hi; omega
  have h3 : ∀ i, i < n → L i * 8 ≤ 140737488351232 := fun i hi => by have := hL i hi; omega
  have H1 := Lib.hid h1; have H3 := Lib.hid h3
  clear h1 h3 hL
  go_enter Try.func73, Try.ntmps73
  go_wp2_with fail
  refine (elemss_any A n cA L (fun i j => (G i j).val) _ (by omega) H3.out (fun i _ j _ => (G i j).isLt) hA).mono ?_
  rintro e w1 ⟨v1, S1, C1, rfl, hO1, hb1⟩
  obtain ⟨A1, c1, rfl, _, _, hE1⟩ := hO1.rdm
  clear hA hO1
  go_wp2_with fail
  refine (rankE_any A1 n c1 L G _ (by omega) H1.out hE1).mono ?_
  rintro e w3 ⟨st, rfl, hb3, _, hR⟩
  rw [HFA.out]
  have HR := Lib.hid hR
  have hbb3 := hb1.trans (hb3.mono hb1.size)
  clear hb1 hb3 hE1 hR
  go_wp2
  go_ret2
  exact ⟨st, rfl, hbb3, fun e => HR.out (HFA.out.trans e)⟩

set_option maxRecDepth 20000 in
set_option maxHeartbeats 1000000 in
theorem times_B (A Bm : Option Addr) (n m cA cB : Nat) (La Lb : Nat → Nat) (G H : Nat → Nat → Fin 2) (w : World) (hn : n ≤ 1000000000000) (hLa : ∀ i, i < n → La i ≤ 1000000000000) (hm : m ≤ 1000000000000) (hLb : ∀ i, i < m → Lb i ≤ 1000000000000)
    (hA : MI w A n La fun i j => (G i j).val) (hB : MI w Bm m Lb fun i j => (H i j).val) :
    Calls Try.prog 69 #[.int .i64 2, .slice A n cA, .slice Bm m cB] w fun e w' => ∃ Av cv, e = .returned (.tuple #[.slice Av (tk n m La Lb) cv, .int .i64 (terr n m La Lb)]) ∧ MI w' Av (tk n m La Lb) (fun _ => colsN m Lb) (fun i j => (gB.mm m G H i j).val) ∧ Below w.heap.size w w' := by
  have h1 : ∀ i, i < n → La i ≤ 9223372036854775807 := fun i hi => by have := hLa i hi; omega
  have h2 : ∀ i, i < m → Lb i ≤ 9223372036854775807 := fun i hi => by have := hLb i hi; omega
  have h3 : ∀ i, i < n → La i * 8 ≤ 140737488351232 := fun i hi => by have := hLa i hi; omega
  have h4 : ∀ i, i < m → Lb i * 8 ≤ 140737488351232 := fun i hi => by have := hLb i hi; omega
  have H1 := Lib.hid h1; have H2 := Lib.hid h2; have H3 := Lib.hid h3; have H4 := Lib.hid h4
  clear h1 h2 h3 h4 hLa hLb
  have HK : Hid (tk n m La Lb ≤ 1000000) := by have := tk_le n m La Lb; show _ ≤ _; omega
  have HC : Hid (∀ i, i < tk n m La Lb → colsN m Lb ≤ 1000000) := fun i hi => by have := (tk_good hi).2.2; omega
  generalize ht : tk n m La Lb = K at *
  generalize he : terr n m La Lb = er
  have HT := Lib.hid ht; have HE := Lib.hid he
  clear ht he
  go_enter Try.func69, Try.ntmps69
  go_wp2_with fail
  refine (bitss_any A n cA La (fun i j => (G i j).val) _ (by omega) H3.out hA).mono ?_
  rintro e w1 ⟨v1, S1, C1, rfl, hO1, hb1⟩
  obtain ⟨A1, c1, rfl, _, _, hE1⟩ := hO1.rdm
  have hB1 := MI.below hB hb1
  clear hA hB hO1
  go_wp2_with fail
  refine (bitss_any Bm m cB Lb (fun i j => (H i j).val) _ (by omega) H4.out hB1).mono ?_
  rintro e w2 ⟨v2, S2, C2, rfl, hO2, hb2⟩
  obtain ⟨A2, c2, rfl, _, _, hE2⟩ := hO2.rdm
  have hE1' := MB.below hE1 hb2
  have hbb := hb1.trans (hb2.mono hb1.size)
  clear hB1 hE1 hb1 hb2 hO2
  go_wp2_with fail
  refine (timB_all A1 A2 n m c1 c2 La Lb (fun i j => (G i j).val) (fun i j => (H i j).val) _ (by omega) H1.out (by omega) H2.out hE1' hE2 (fun i j => (G i j).isLt) (fun i j => (H i j).isLt)).mono ?_
  rintro e w3 ⟨A3, c3, rfl, hM3, hb3⟩
  have hbb3 := hbb.trans (hb3.mono hbb.size)
  rw [HT.out] at hM3 ⊢
  rw [HE.out]
  have HM : MB w3 A3 K (fun _ => colsN m Lb) (fun i j => (gB.mm m G H i j).val) := by
    have e1 : (fun i j => dot 2 ((fun i j => (G i j).val) i) (fun u => (fun i j => (H i j).val) u j) m) = fun i j => (gB.mm m G H i j).val := by
      funext i j; exact dot_mm okB G H i j m
    rw [← e1]; exact hM3
  clear hbb hb3 hE1' hE2 hM3
  go_wp2_with fail
  refine (intsB_any A3 K c3 (fun _ => colsN m Lb) (fun i j => (gB.mm m G H i j).val) _ HK.out HC.out (fun i j => (gB.mm m G H i j).isLt) HM).mono ?_
  rintro e w4 ⟨v4, S4, C4, rfl, hO4, hb4⟩
  obtain ⟨A4, c4, rfl, _, _, hE4⟩ := hO4.rdm
  have hbF := hbb3.trans (hb4.mono hbb3.size)
  clear hb4 hbb3 HM hO4
  go_wp2
  go_ret2
  exact ⟨_, _, rfl, hE4, hbF⟩
set_option maxRecDepth 20000 in
set_option maxHeartbeats 1000000 in
theorem inverse_B (A : Option Addr) (n cA : Nat) (L : Nat → Nat) (G : Nat → Nat → Fin 2) (w : World) (hn : n ≤ 1000000000000) (hL : ∀ i, i < n → L i ≤ 1000000000000) (hA : MI w A n L fun i j => (G i j).val) :
    Calls Try.prog 74 #[.int .i64 2, .slice A n cA] w fun e w' => ∃ (er : Int) (X : Nat → Nat → Fin 2) (Av : Option Addr) (cv : Nat), e = .returned (.tuple #[.slice Av (if er = 0 then n else 0) cv, .int .i64 er]) ∧ InvP gB n L G er X ∧ Below w.heap.size w w' ∧ MI w' Av (if er = 0 then n else 0) (fun _ => n) (fun i j => (X i j).val) := by
  have h1 : ∀ i, i < n → L i ≤ 9223372036854775807 := fun i hi => by have := hL i hi; omega
  have h3 : ∀ i, i < n → L i * 8 ≤ 140737488351232 := fun i hi => by have := hL i hi; omega
  have H1 := Lib.hid h1; have H3 := Lib.hid h3
  clear h1 h3 hL
  go_enter Try.func74, Try.ntmps74
  go_wp2_with fail
  refine (bitss_any A n cA L (fun i j => (G i j).val) _ (by omega) H3.out hA).mono ?_
  rintro e w1 ⟨v1, S1, C1, rfl, hO1, hb1⟩
  obtain ⟨A1, c1, rfl, _, _, hE1⟩ := hO1.rdm
  clear hA hO1
  go_wp2_with fail
  refine (invB_any A1 n c1 L G _ (by omega) H1.out hE1).mono ?_
  rintro e w3 ⟨er, X, A3, c3, rfl, hIP, hb3, hX⟩
  have hbb3 := hb1.trans (hb3.mono hb1.size)
  have hsm := hIP.small
  have HIP := Lib.hid hIP
  generalize hk : (if er = 0 then n else 0) = K at *
  have HK : Hid (K ≤ 1000000) := by have := hsm.1; show _ ≤ _; omega
  have HC : Hid (∀ i, i < K → n ≤ 1000000) := fun i hi => by
    by_cases e : er = 0
    · have := hsm.2 e; omega
    · rw [if_neg e] at hk; omega
  have HKK := Lib.hid hk
  clear hsm hIP hb1 hb3 hE1 hk
  go_wp2_with fail
  refine (intsB_any A3 K c3 (fun _ => n) (fun i j => (X i j).val) _ HK.out HC.out (fun i j => (X i j).isLt) hX).mono ?_
  rintro e w4 ⟨v4, S4, C4, rfl, hO4, hb4⟩
  obtain ⟨A4, c4, rfl, _, _, hE4⟩ := hO4.rdm
  have hbF := hbb3.trans (hb4.mono hbb3.size)
  clear hb4 hbb3 hX hO4
  go_wp2
  go_ret2
  refine ⟨er, X, A4, c4, ?_, HIP.out, hbF, ?_⟩
  · rw [HKK.out]; rfl
  · rw [HKK.out]; exact hE4
set_option maxRecDepth 20000 in
set_option maxHeartbeats 1000000 in
theorem ranks_B (A : Option Addr) (n cA : Nat) (L : Nat → Nat) (G : Nat → Nat → Fin 2) (w : World) (hn : n ≤ 1000000000000) (hL : ∀ i, i < n → L i ≤ 1000000000000) (hA : MI w A n L fun i j => (G i j).val) :
    Calls Try.prog 73 #[.int .i64 2, .slice A n cA] w fun e w' => ∃ st : Nat, e = .returned (.tuple #[.int .i64 (st : Nat), .int .i64 (faultE n L)]) ∧ Below w.heap.size w w' ∧ (faultE n L = 0 → ∃ G' p, gB.RR n (colsN n L) (colsN n L) G G' st p) := by
  generalize hfa : faultE n L = fa
  have HFA := Lib.hid hfa; clear hfa
  have h1 : ∀ i, i < n → L i ≤ 9223372036854775807 := fun i hi => by have := hL i hi; omega
  have h3 : ∀ i, i < n → L i * 8 ≤ 140737488351232 := fun i hi => by have := hL i hi; omega
  have H1 := Lib.hid h1; have H3 := Lib.hid h3
  clear h1 h3 hL
  go_enter Try.func73, Try.ntmps73
  go_wp2_with fail
  refine (bitss_any A n cA L (fun i j => (G i j).val) _ (by omega) H3.out hA).mono ?_
  rintro e w1 ⟨v1, S1, C1, rfl, hO1, hb1⟩
  obtain ⟨A1, c1, rfl, _, _, hE1⟩ := hO1.rdm
  clear hA hO1
  go_wp2_with fail
  refine (rankB_any A1 n c1 L G _ (by omega) H1.out hE1).mono ?_
  rintro e w3 ⟨st, rfl, hb3, _, hR⟩
  rw [HFA.out]
  have HR := Lib.hid hR
  have hbb3 := hb1.trans (hb3.mono hb1.size)
  clear hb1 hb3 hE1 hR
  go_wp2
  go_ret2
  exact ⟨st, rfl, hbb3, fun e => HR.out (HFA.out.trans e)⟩

set_option maxRecDepth 20000 in
set_option maxHeartbeats 1000000 in
theorem times_F (A Bm : Option Addr) (n m cA cB : Nat) (La Lb : Nat → Nat) (G H : Nat → Nat → Fin 4) (w : World) (hn : n ≤ 1000000000000) (hLa : ∀ i, i < n → La i ≤ 1000000000000) (hm : m ≤ 1000000000000) (hLb : ∀ i, i < m → Lb i ≤ 1000000000000)
    (hA : MI w A n La fun i j => (G i j).val) (hB : MI w Bm m Lb fun i j => (H i j).val) :
    Calls Try.prog 69 #[.int .i64 4, .slice A n cA, .slice Bm m cB] w fun e w' => ∃ Av cv, e = .returned (.tuple #[.slice Av (tk n m La Lb) cv, .int .i64 (terr n m La Lb)]) ∧ MI w' Av (tk n m La Lb) (fun _ => colsN m Lb) (fun i j => (gF.mm m G H i j).val) ∧ Below w.heap.size w w' := by
  have h1 : ∀ i, i < n → La i ≤ 9223372036854775807 := fun i hi => by have := hLa i hi; omega
  have h2 : ∀ i, i < m → Lb i ≤ 9223372036854775807 := fun i hi => by have := hLb i hi; omega
  have h3 : ∀ i, i < n → La i * 8 ≤ 140737488351232 := fun i hi => by have := hLa i hi; omega
  have h4 : ∀ i, i < m → Lb i * 8 ≤ 140737488351232 := fun i hi => by have := hLb i hi; omega
  have H1 := Lib.hid h1; have H2 := Lib.hid h2; have H3 := Lib.hid h3; have H4 := Lib.hid h4
  clear h1 h2 h3 h4 hLa hLb
  have HK : Hid (tk n m La Lb ≤ 1000000) := by have := tk_le n m La Lb; show _ ≤ _; omega
  have HC : Hid (∀ i, i < tk n m La Lb → colsN m Lb ≤ 1000000) := fun i hi => by have := (tk_good hi).2.2; omega
  generalize ht : tk n m La Lb = K at *
  generalize he : terr n m La Lb = er
  have HT := Lib.hid ht; have HE := Lib.hid he
  clear ht he
  go_enter Try.func69, Try.ntmps69
  go_wp2_with fail
  refine (fourss_any A n cA La (fun i j => (G i j).val) _ (by omega) H3.out hA).mono ?_
  rintro e w1 ⟨v1, S1, C1, rfl, hO1, hb1⟩
  obtain ⟨A1, c1, rfl, _, _, hE1⟩ := hO1.rdm2
  have hB1 := MI.below hB hb1
  clear hA hB hO1
  go_wp2_with fail
  refine (fourss_any Bm m cB Lb (fun i j => (H i j).val) _ (by omega) H4.out hB1).mono ?_
  rintro e w2 ⟨v2, S2, C2, rfl, hO2, hb2⟩
  obtain ⟨A2, c2, rfl, _, _, hE2⟩ := hO2.rdm2
  have hE1' := MF.below hE1 hb2
  have hbb := hb1.trans (hb2.mono hb1.size)
  clear hB1 hE1 hb1 hb2 hO2
  go_wp2_with fail
  refine (timF_all A1 A2 n m c1 c2 La Lb (fun i j => (G i j).val) (fun i j => (H i j).val) _ (by omega) H1.out (by omega) H2.out hE1' hE2 (fun i j => (G i j).isLt) (fun i j => (H i j).isLt)).mono ?_
  rintro e w3 ⟨A3, c3, rfl, hM3, hb3⟩
  have hbb3 := hbb.trans (hb3.mono hbb.size)
  rw [HT.out] at hM3 ⊢
  rw [HE.out]
  have HM : MF w3 A3 K (fun _ => colsN m Lb) (fun i j => (gF.mm m G H i j).val) := by
    have e1 : (fun i j => dot 4 ((fun i j => (G i j).val) i) (fun u => (fun i j => (H i j).val) u j) m) = fun i j => (gF.mm m G H i j).val := by
      funext i j; exact dot_mm okF G H i j m
    rw [← e1]; exact hM3
  clear hbb hb3 hE1' hE2 hM3
  go_wp2_with fail
  refine (intsF_any A3 K c3 (fun _ => colsN m Lb) (fun i j => (gF.mm m G H i j).val) _ HK.out HC.out (fun i j => (gF.mm m G H i j).isLt) HM).mono ?_
  rintro e w4 ⟨v4, S4, C4, rfl, hO4, hb4⟩
  obtain ⟨A4, c4, rfl, _, _, hE4⟩ := hO4.rdm
  have hbF := hbb3.trans (hb4.mono hbb3.size)
  clear hb4 hbb3 HM hO4
  go_wp2
  go_ret2
  exact ⟨_, _, rfl, hE4, hbF⟩
set_option maxRecDepth 20000 in
set_option maxHeartbeats 1000000 in
theorem inverse_F (A : Option Addr) (n cA : Nat) (L : Nat → Nat) (G : Nat → Nat → Fin 4) (w : World) (hn : n ≤ 1000000000000) (hL : ∀ i, i < n → L i ≤ 1000000000000) (hA : MI w A n L fun i j => (G i j).val) :
    Calls Try.prog 74 #[.int .i64 4, .slice A n cA] w fun e w' => ∃ (er : Int) (X : Nat → Nat → Fin 4) (Av : Option Addr) (cv : Nat), e = .returned (.tuple #[.slice Av (if er = 0 then n else 0) cv, .int .i64 er]) ∧ InvP gF n L G er X ∧ Below w.heap.size w w' ∧ MI w' Av (if er = 0 then n else 0) (fun _ => n) (fun i j => (X i j).val) := by
  have h1 : ∀ i, i < n → L i ≤ 9223372036854775807 := fun i hi => by have := hL i hi; omega
  have h3 : ∀ i, i < n → L i * 8 ≤ 140737488351232 := fun i hi => by have := hL i hi; omega
  have H1 := Lib.hid h1; have H3 := Lib.hid h3
  clear h1 h3 hL
  go_enter Try.func74, Try.ntmps74
  go_wp2_with fail
  refine (fourss_any A n cA L (fun i j => (G i j).val) _ (by omega) H3.out hA).mono ?_
  rintro e w1 ⟨v1, S1, C1, rfl, hO1, hb1⟩
  obtain ⟨A1, c1, rfl, _, _, hE1⟩ := hO1.rdm2
  clear hA hO1
  go_wp2_with fail
  refine (invF_any A1 n c1 L G _ (by omega) H1.out hE1).mono ?_
  rintro e w3 ⟨er, X, A3, c3, rfl, hIP, hb3, hX⟩
  have hbb3 := hb1.trans (hb3.mono hb1.size)
  have hsm := hIP.small
  have HIP := Lib.hid hIP
  generalize hk : (if er = 0 then n else 0) = K at *
  have HK : Hid (K ≤ 1000000) := by have := hsm.1; show _ ≤ _; omega
  have HC : Hid (∀ i, i < K → n ≤ 1000000) := fun i hi => by
    by_cases e : er = 0
    · have := hsm.2 e; omega
    · rw [if_neg e] at hk; omega
  have HKK := Lib.hid hk
  clear hsm hIP hb1 hb3 hE1 hk
  go_wp2_with fail
  refine (intsF_any A3 K c3 (fun _ => n) (fun i j => (X i j).val) _ HK.out HC.out (fun i j => (X i j).isLt) hX).mono ?_
  rintro e w4 ⟨v4, S4, C4, rfl, hO4, hb4⟩
  obtain ⟨A4, c4, rfl, _, _, hE4⟩ := hO4.rdm
  have hbF := hbb3.trans (hb4.mono hbb3.size)
  clear hb4 hbb3 hX hO4
  go_wp2
  go_ret2
  refine ⟨er, X, A4, c4, ?_, HIP.out, hbF, ?_⟩
  · rw [HKK.out]; rfl
  · rw [HKK.out]; exact hE4
set_option maxRecDepth 20000 in
set_option maxHeartbeats 1000000 in
theorem ranks_F (A : Option Addr) (n cA : Nat) (L : Nat → Nat) (G : Nat → Nat → Fin 4) (w : World) (hn : n ≤ 1000000000000) (hL : ∀ i, i < n → L i ≤ 1000000000000) (hA : MI w A n L fun i j => (G i j).val) :
    Calls Try.prog 73 #[.int .i64 4, .slice A n cA] w fun e w' => ∃ st : Nat, e = .returned (.tuple #[.int .i64 (st : Nat), .int .i64 (faultE n L)]) ∧ Below w.heap.size w w' ∧ (faultE n L = 0 → ∃ G' p, gF.RR n (colsN n L) (colsN n L) G G' st p) := by
  generalize hfa : faultE n L = fa
  have HFA := Lib.hid hfa; clear hfa
  have h1 : ∀ i, i < n → L i ≤ 9223372036854775807 := fun i hi => by have := hL i hi; omega
  have h3 : ∀ i, i < n → L i * 8 ≤ 140737488351232 := fun i hi => by have := hL i hi; omega
  have H1 := Lib.hid h1; have H3 := Lib.hid h3
  clear h1 h3 hL
  go_enter Try.func73, Try.ntmps73
  go_wp2_with fail
  refine (fourss_any A n cA L (fun i j => (G i j).val) _ (by omega) H3.out hA).mono ?_
  rintro e w1 ⟨v1, S1, C1, rfl, hO1, hb1⟩
  obtain ⟨A1, c1, rfl, _, _, hE1⟩ := hO1.rdm2
  clear hA hO1
  go_wp2_with fail
  refine (rankF_any A1 n c1 L G _ (by omega) H1.out hE1).mono ?_
  rintro e w3 ⟨st, rfl, hb3, _, hR⟩
  rw [HFA.out]
  have HR := Lib.hid hR
  have hbb3 := hb1.trans (hb3.mono hb1.size)
  clear hb1 hb3 hE1 hR
  go_wp2
  go_ret2
  exact ⟨st, rfl, hbb3, fun e => HR.out (HFA.out.trans e)⟩


theorem times_any {s : Nat} {F : Fd (Fin s)} (hF : Fld s F) (A Bm : Option Addr) (n m cA cB : Nat) (La Lb : Nat → Nat) (G H : Nat → Nat → Fin s) (w : World) (hn : n ≤ 1000000000000) (hLa : ∀ i, i < n → La i ≤ 1000000000000) (hm : m ≤ 1000000000000) (hLb : ∀ i, i < m → Lb i ≤ 1000000000000)
    (hA : MI w A n La fun i j => (G i j).val) (hB : MI w Bm m Lb fun i j => (H i j).val) :
    Calls Try.prog 69 #[.int .i64 (s : Nat), .slice A n cA, .slice Bm m cB] w fun e w' => ∃ Av cv, e = .returned (.tuple #[.slice Av (tk n m La Lb) cv, .int .i64 (terr n m La Lb)]) ∧ MI w' Av (tk n m La Lb) (fun _ => colsN m Lb) (fun i j => (F.mm m G H i j).val) ∧ Below w.heap.size w w' := by
  cases hF
  · exact times_E A Bm n m cA cB La Lb G H w hn hLa hm hLb hA hB
  · exact times_B A Bm n m cA cB La Lb G H w hn hLa hm hLb hA hB
  · exact times_F A Bm n m cA cB La Lb G H w hn hLa hm hLb hA hB
theorem inverse_any {s : Nat} {F : Fd (Fin s)} (hF : Fld s F) (A : Option Addr) (n cA : Nat) (L : Nat → Nat) (G : Nat → Nat → Fin s) (w : World) (hn : n ≤ 1000000000000) (hL : ∀ i, i < n → L i ≤ 1000000000000) (hA : MI w A n L fun i j => (G i j).val) :
    Calls Try.prog 74 #[.int .i64 (s : Nat), .slice A n cA] w fun e w' => ∃ (er : Int) (X : Nat → Nat → Fin s) (Av : Option Addr) (cv : Nat), e = .returned (.tuple #[.slice Av (if er = 0 then n else 0) cv, .int .i64 er]) ∧ InvP F n L G er X ∧ Below w.heap.size w w' ∧ MI w' Av (if er = 0 then n else 0) (fun _ => n) (fun i j => (X i j).val) := by
  cases hF
  · exact inverse_E A n cA L G w hn hL hA
  · exact inverse_B A n cA L G w hn hL hA
  · exact inverse_F A n cA L G w hn hL hA
theorem ranks_any {s : Nat} {F : Fd (Fin s)} (hF : Fld s F) (A : Option Addr) (n cA : Nat) (L : Nat → Nat) (G : Nat → Nat → Fin s) (w : World) (hn : n ≤ 1000000000000) (hL : ∀ i, i < n → L i ≤ 1000000000000) (hA : MI w A n L fun i j => (G i j).val) :
    Calls Try.prog 73 #[.int .i64 (s : Nat), .slice A n cA] w fun e w' => ∃ st : Nat, e = .returned (.tuple #[.int .i64 (st : Nat), .int .i64 (faultE n L)]) ∧ Below w.heap.size w w' ∧ (faultE n L = 0 → ∃ G' p, F.RR n (colsN n L) (colsN n L) G G' st p) := by
  cases hF
  · exact ranks_E A n cA L G w hn hL hA
  · exact ranks_B A n cA L G w hn hL hA
  · exact ranks_F A n cA L G w hn hL hA
end Go.Proofs.Ytpocjpodeahanaa
