/- The helper of the page on what is said outright: solve with numbers as ints, three fields. Conditions: small sizes. -/
import Derived.Test.YtpocjpodeahanaaKnown
import Derived.Test.YtpocjpodeahanaaSol
import Derived.Test.YtpocjpodeahanaaMat1
namespace Go.Proofs.Ytpocjpodeahanaa
open Go.RowKit

theorem lit1 (w : World) (u : Value) (T TR : TypeId) : RdM ((w.alloc (.cells #[u] T)).alloc (.cells #[.slice (some ⟨w.heap.size, 0, none⟩) 1 1] TR)) (some ⟨w.heap.size + 1, 0, none⟩) 1 (fun _ => 1) (fun _ _ => u) := by
  have r1 := (World.rowIs_alloc w #[u] T (fun _ => u) (by intro i hi; match i, hi with | 0, _ => rfl)).alloc (.cells #[.slice (some ⟨w.heap.size, 0, none⟩) 1 1] TR)
  have r2 := World.rowIs_alloc (w.alloc (.cells #[u] T)) #[.slice (some ⟨w.heap.size, 0, none⟩) 1 1] TR (fun _ => .slice (some ⟨w.heap.size, 0, none⟩) 1 1) (by intro i hi; match i, hi with | 0, _ => rfl)
  rw [sizeAl] at r2
  exact ⟨fun _ => some ⟨w.heap.size, 0, none⟩, fun _ => 1, row_rd r2, fun i _ => row_rd r1⟩
theorem lit2x (w : World) (u u' : Value) (T TR : TypeId) : RdM2 ((w.alloc (.cells #[u, u'] T)).alloc (.cells #[.slice (some ⟨w.heap.size, 0, none⟩) 1 1] TR)) (some ⟨w.heap.size + 1, 0, none⟩) 1 (fun _ => 1) (fun _ _ => u) (fun _ _ => u') := by
  have r1 := (World.rowIs_alloc w #[u, u'] T (fun i => if i = 0 then u else u') (by intro i hi; match i, hi with | 0, _ => rfl | 1, _ => rfl)).alloc (.cells #[.slice (some ⟨w.heap.size, 0, none⟩) 1 1] TR)
  have r2 := World.rowIs_alloc (w.alloc (.cells #[u, u'] T)) #[.slice (some ⟨w.heap.size, 0, none⟩) 1 1] TR (fun _ => .slice (some ⟨w.heap.size, 0, none⟩) 1 1) (by intro i hi; match i, hi with | 0, _ => rfl)
  rw [sizeAl] at r2
  refine ⟨fun _ => some ⟨w.heap.size, 0, none⟩, fun _ => 1, row_rd r2, fun i _ j hj => ?_⟩
  obtain rfl : j = 0 := by have : j < 1 := hj; omega
  exact ⟨w.heap.size, 0, rfl, r1.lt, r1.cell (i := 0) (by show 0 < 2; decide), r1.cell (i := 1) (by show 1 < 2; decide)⟩
/-- A literal row of one number is owned. -/
theorem lit1_own (w : World) (B : Nat) (x : Nat) (hB : B ≤ w.heap.size) : Own (w.alloc (.cells #[.int .i64 (x : Nat)] 3)) B 3 1 (.slice (some ⟨w.heap.size, 0, none⟩) 1 1) 1 (fun _ => [.int .i64 (x : Nat)]) :=
  own_of_row (World.rowIs_alloc w #[.int .i64 (x : Nat)] 3 (fun _ => .int .i64 (x : Nat)) (by intro i hi; match i, hi with | 0, _ => rfl)) hB (by decide)


set_option maxRecDepth 20000 in
set_option maxHeartbeats 2000000 in
theorem solve_E (A V : Option Addr) (n cA m cV : Nat) (L : Nat → Nat) (G : Nat → Nat → Fin 256) (v : Nat → Fin 256) (w : World) (hn : n ≤ 1000000000000) (hL : ∀ i, i < n → L i ≤ 1000000000000) (hm : m ≤ 1000000000000)
    (hA : MI w A n L fun i j => (G i j).val) (hV : Rd w V m fun i => .int .i64 ((v i).val : Nat)) :
    Calls Try.prog 75 #[.int .i64 256, .slice A n cA, .slice V m cV] w fun e w' => ∃ (er : Int) (x : Nat → Fin 256) (Av : Option Addr) (cv : Nat), e = .returned (.tuple #[.slice Av (if er = 0 then n else 0) cv, .int .i64 er]) ∧ SolP gE n L m G v er x ∧ Below w.heap.size w w' ∧ MI w' Av (if er = 0 then n else 0) (fun _ => 1) (fun i _ => (x i).val) := by
  have h1 : ∀ i, i < n → L i ≤ 9223372036854775807 := fun i hi => by have := hL i hi; omega
  have h3 : ∀ i, i < n → L i * 8 ≤ 140737488351232 := fun i hi => by have := hL i hi; omega
  have H1 := Lib.hid h1; have H3 := Lib.hid h3
  clear h1 h3 hL
  go_enter Try.func75, Try.ntmps75
  go_wp2_with fail
  refine (elemss_any A n cA L (fun i j => (G i j).val) _ (by omega) H3.out (fun i _ j _ => (G i j).isLt) hA).mono ?_
  rintro e w4 ⟨v4, S4, C4, rfl, hO4, hb4⟩
  obtain ⟨A4, c4, rfl, _, _, hE4⟩ := hO4.rdm
  have hV4 := hV.below hb4
  clear hO4 hA hV
  go_wp2_with fail
  refine (elems_any V m cV (fun i => (v i).val) _ (by omega) (fun i _ => (v i).isLt) hV4).mono ?_
  rintro e w5 ⟨v5, rfl, hO5, hb5⟩
  obtain ⟨A5, c5, rfl, hcap5, _, hV5, _⟩ := hO5.rd
  have hbb5 := hb4.trans (hb5.mono hb4.size)
  have hE5 := ME.below hE4 hb5
  clear hb5 hb4 hV4 hO5 hE4
  go_wp2_with fail
  refine (solE_any A4 A5 n c4 m c5 L G v _ (by omega) H1.out hE5 hV5 hcap5).mono ?_
  rintro e w6 ⟨er, x, A6, c6, rfl, hIP, hb6, hX6⟩
  have hbF := hbb5.trans (hb6.mono hbb5.size)
  have hsm := hIP.small
  have HIP := Lib.hid hIP
  generalize hk : (if er = 0 then n else 0) = K at *
  have HKK := Lib.hid hk
  have HX := Lib.hid hX6; have HBF := Lib.hid hbF
  clear hb6 hE5 hV5 hbb5 hIP hcap5 hk hX6 hbF
  have hbr : Below w6.heap.size w6 w6 := Below.refl _ _
  obtain ⟨B0, hB0⟩ : ∃ B0, B0 = w6.heap.size := ⟨_, rfl⟩
  rw [← hB0] at hbr
  have HB0 := Lib.hid hB0; clear hB0
  go_wp2
  go_loopg [8, 11] K (fun gk mv i wr => ∃ (k : Nat) (S : Nat → Option Addr) (C : Nat → Nat), k ≤ K ∧ gk = K - k ∧ i = .int .i64 k ∧ OwnQ wr B0 23 3 1 mv k S C (fun _ => 1) (fun i _ => [.int .i64 ((x i).val : Nat)]) ∧ Below B0 w6 wr)
  case atStart => exact ⟨0, fun _ => none, fun _ => 0, Nat.zero_le _, rfl, rfl, OwnQ.nil _ _ _ _ _ _ _ _ _, hbr⟩
  case round =>
    clear hbr
    obtain ⟨k, S, C, hk, rfl, rfl, hown, hbel⟩ := hrel
    have hsz : B0 ≤ wr.heap.size := by rw [HB0.out]; exact hbel.size
    rw [HB0.out] at hbel
    have hbel : Below w6.heap.size w6 wr := hbel
    by_cases hlt : k < K
    · skip
      obtain ⟨b, o, rfl, hb, hc⟩ := HX.out k hlt
      have hc' : wr.cell? ⟨b, o + k, none⟩ = some (.int .u8 ((x k).val : Nat)) := (hbel.cell hb).trans hc
      have hxk : (x k).val < 256 := (x k).isLt
      clear hc
      rw [← HB0.out] at hbel
      have hownB := (hown.kept ((Below.refl wr.heap.size wr).alloc (Nat.le_refl _) (.cells #[.int .i64 ((x k).val : Nat)] 3))).next (some ⟨wr.heap.size, 0, none⟩) 1
      have hrow' : Own (wr.alloc (.cells #[.int .i64 ((x k).val : Nat)] 3)) B0 3 1 (.slice (upd S k (some ⟨wr.heap.size, 0, none⟩) k) 1 (upd C k 1 k)) 1 (fun _ => [.int .i64 ((x k).val : Nat)]) := by
        rw [upd_at, upd_at]; exact lit1_own wr _ _ hsz
      have hu : Hid ((#[Value.slice (some ⟨wr.heap.size, 0, none⟩) 1 1] : Array Value).toList = [.slice (upd S k (some ⟨wr.heap.size, 0, none⟩) k) 1 (upd C k 1 k)]) := by rw [upd_at, upd_at]; rfl
      have hbelB := hbel.alloc hsz (.cells #[.int .i64 ((x k).val : Nat)] 3)
      have hszB := hbelB.size
      rw [← HB0.out] at hszB
      have hN : (wr.alloc (.cells #[.int .i64 ((x k).val : Nat)] 3)).heap.size = wr.heap.size + 1 := sizeAl _ _
      have HN := Lib.hid hN; have HSB := Lib.hid hszB
      clear hown hbel hN hszB
      go_wp2_with (at_builtin; refine wpList_push _ rfl (.tmp 35) (.tmp 42) 22 rfl B0 23 1 24 (.slice none 0 0) #[.slice (some ⟨wr.heap.size, 0, none⟩) 1 1] Try.underlying22 intsInfo rfl (by decide) _ k _ rfl hownB.1 HSB.out (wr.heap.size + 1) HN.out rfl hu.out rfl rfl (by omega) (by omega) ?_)
      intro v' w8 hown4 hbel4 hg4 _
      have hO := hownB.push (by decide) hrow' hown4 hg4
      have hbelF := hbelB.trans hbel4
      clear hownB hrow' hown4 hg4 hbel4 hbelB
      go_wp2
      go_roundg (K - (k + 1))
      case measure => omega
      case rel => exact ⟨k + 1, _, _, by omega, rfl, by go_num, hO, hbelF⟩
    · have : k = K := by omega
      subst this
      obtain ⟨A9, c9, rfl, _, _, hM9⟩ := hown.rdm
      have HF : Hid (Below w.heap.size w wr) := HBF.out.trans (hbel.mono HBF.out.size)
      clear hown hbel
      go_wp2
      go_ret2
      refine ⟨er, x, A9, c9, ?_, HIP.out, HF.out, ?_⟩
      · rw [HKK.out]; rfl
      · rw [HKK.out]; exact hM9

set_option maxRecDepth 20000 in
set_option maxHeartbeats 2000000 in
theorem solve_B (A V : Option Addr) (n cA m cV : Nat) (L : Nat → Nat) (G : Nat → Nat → Fin 2) (v : Nat → Fin 2) (w : World) (hn : n ≤ 1000000000000) (hL : ∀ i, i < n → L i ≤ 1000000000000) (hm : m ≤ 1000000000000)
    (hA : MI w A n L fun i j => (G i j).val) (hV : Rd w V m fun i => .int .i64 ((v i).val : Nat)) :
    Calls Try.prog 75 #[.int .i64 2, .slice A n cA, .slice V m cV] w fun e w' => ∃ (er : Int) (x : Nat → Fin 2) (Av : Option Addr) (cv : Nat), e = .returned (.tuple #[.slice Av (if er = 0 then n else 0) cv, .int .i64 er]) ∧ SolP gB n L m G v er x ∧ Below w.heap.size w w' ∧ MI w' Av (if er = 0 then n else 0) (fun _ => 1) (fun i _ => (x i).val) := by
  have h1 : ∀ i, i < n → L i ≤ 9223372036854775807 := fun i hi => by have := hL i hi; omega
  have h3 : ∀ i, i < n → L i * 8 ≤ 140737488351232 := fun i hi => by have := hL i hi; omega
  have H1 := Lib.hid h1; have H3 := Lib.hid h3
  clear h1 h3 hL
  go_enter Try.func75, Try.ntmps75
  go_wp2_with fail
  refine (bitss_any A n cA L (fun i j => (G i j).val) _ (by omega) H3.out hA).mono ?_
  rintro e w4 ⟨v4, S4, C4, rfl, hO4, hb4⟩
  obtain ⟨A4, c4, rfl, _, _, hE4⟩ := hO4.rdm
  have hV4 := hV.below hb4
  clear hO4 hA hV
  go_wp2_with fail
  refine (bits_any V m cV (fun i => (v i).val) _ (by omega) hV4).mono ?_
  rintro e w5 ⟨v5, rfl, hO5, hb5⟩
  obtain ⟨A5, c5, rfl, hcap5, _, hV5, _⟩ := hO5.rd
  have hbb5 := hb4.trans (hb5.mono hb4.size)
  have hE5 := MB.below hE4 hb5
  clear hb5 hb4 hV4 hO5 hE4
  go_wp2_with fail
  refine (solB_any A4 A5 n c4 m c5 L G v _ (by omega) H1.out hE5 hV5 hcap5).mono ?_
  rintro e w6 ⟨er, x, A6, c6, rfl, hIP, hb6, hX6⟩
  have hbF := hbb5.trans (hb6.mono hbb5.size)
  have hsm := hIP.small
  have HIP := Lib.hid hIP
  generalize hk : (if er = 0 then n else 0) = K at *
  have HKK := Lib.hid hk
  have HX := Lib.hid hX6; have HBF := Lib.hid hbF
  clear hb6 hE5 hV5 hbb5 hIP hcap5 hk hX6 hbF
  have hbr : Below w6.heap.size w6 w6 := Below.refl _ _
  obtain ⟨B0, hB0⟩ : ∃ B0, B0 = w6.heap.size := ⟨_, rfl⟩
  rw [← hB0] at hbr
  have HB0 := Lib.hid hB0; clear hB0
  go_wp2
  go_loopg [8, 14] K (fun gk mv i wr => ∃ (k : Nat) (S : Nat → Option Addr) (C : Nat → Nat), k ≤ K ∧ gk = K - k ∧ i = .int .i64 k ∧ OwnQ wr B0 23 3 1 mv k S C (fun _ => 1) (fun i _ => [.int .i64 ((x i).val : Nat)]) ∧ Below B0 w6 wr)
  case atStart => exact ⟨0, fun _ => none, fun _ => 0, Nat.zero_le _, rfl, rfl, OwnQ.nil _ _ _ _ _ _ _ _ _, hbr⟩
  case round =>
    clear hbr
    obtain ⟨k, S, C, hk, rfl, rfl, hown, hbel⟩ := hrel
    have hsz : B0 ≤ wr.heap.size := by rw [HB0.out]; exact hbel.size
    rw [HB0.out] at hbel
    have hbel : Below w6.heap.size w6 wr := hbel
    by_cases hlt : k < K
    · skip
      obtain ⟨b, o, rfl, hb, hc⟩ := HX.out k hlt
      have hc' : wr.cell? ⟨b, o + k, none⟩ = some (.bool (bB (x k).val)) := (hbel.cell hb).trans hc
      have hLit := lit1 wr (.bool (bB (x k).val)) 40 65
      rw [← HB0.out] at hbel
      have HLit := Lib.hid hLit
      have HBW : Hid (Below wr.heap.size wr ((wr.alloc (.cells #[.bool (bB (x k).val)] 40)).alloc (.cells #[.slice (some ⟨wr.heap.size, 0, none⟩) 1 1] 65))) := ((Below.refl _ _).alloc (Nat.le_refl _) _).alloc (by simp) _
      clear hLit
      go_wp2_with fail
      refine (intsB_any (some ⟨wr.heap.size + 1, 0, none⟩) 1 1 (fun _ => 1) (fun _ _ => (x k).val) ((wr.alloc (.cells #[.bool (bB (x k).val)] 40)).alloc (.cells #[.slice (some ⟨wr.heap.size, 0, none⟩) 1 1] 65)) (by decide) (fun _ _ => by decide) (fun _ _ => (x k).isLt) HLit.out).mono ?_
      rintro e w7 ⟨v7, S7, C7, rfl, hO7, hb7⟩
      have hr7 := (hO7.2 0 (by decide)).mono (B' := B0) (by have := HBW.out.size; omega)
      obtain ⟨A7, c7, rfl, _, _, hT7, _⟩ := hO7.1.rd
      obtain ⟨b7, o7, rfl, _, hc7⟩ := hT7 0 (by decide)
      rw [Nat.add_zero] at hc7
      replace hc7 : w7.cell? ⟨b7, o7, none⟩ = some (.slice (S7 0) 1 (C7 0)) := hc7
      have hbW7 : Below wr.heap.size wr w7 := HBW.out.trans (hb7.mono HBW.out.size)
      have hownB := (hown.kept hbW7).next (S7 0) (C7 0)
      have hrow' : Own w7 B0 3 1 (.slice (upd S k (S7 0) k) 1 (upd C k (C7 0) k)) 1 (fun _ => [.int .i64 ((x k).val : Nat)]) := by
        rw [upd_at, upd_at]; exact hr7
      generalize S7 0 = A8 at *
      generalize C7 0 = c8 at *
      have hu : Hid ((#[Value.slice A8 1 c8] : Array Value).toList = [.slice (upd S k A8 k) 1 (upd C k c8 k)]) := by rw [upd_at, upd_at]; rfl
      have hbelB := hbel.trans (hbW7.mono hsz)
      have hszB := hbelB.size
      rw [← HB0.out] at hszB
      have HSB := Lib.hid hszB
      clear hown hbel hszB hbW7 hb7 hO7 hT7 hr7 HLit HBW hc'
      go_wp2_with (at_builtin; refine wpList_push _ rfl (.tmp 62) (.tmp 72) 22 rfl B0 23 1 24 (.slice none 0 0) #[.slice A8 1 c8] Try.underlying22 intsInfo rfl (by decide) _ k _ rfl hownB.1 HSB.out _ rfl rfl hu.out rfl rfl (by omega) (by omega) ?_)
      intro v' w8 hown4 hbel4 hg4 _
      have hO := hownB.push (by decide) hrow' hown4 hg4
      have hbelF := hbelB.trans hbel4
      clear hownB hrow' hown4 hg4 hbel4 hbelB
      go_wp2
      go_roundg (K - (k + 1))
      case measure => omega
      case rel => exact ⟨k + 1, _, _, by omega, rfl, by go_num, hO, hbelF⟩
    · have : k = K := by omega
      subst this
      obtain ⟨A9, c9, rfl, _, _, hM9⟩ := hown.rdm
      have HF : Hid (Below w.heap.size w wr) := HBF.out.trans (hbel.mono HBF.out.size)
      clear hown hbel
      go_wp2
      go_ret2
      refine ⟨er, x, A9, c9, ?_, HIP.out, HF.out, ?_⟩
      · rw [HKK.out]; rfl
      · rw [HKK.out]; exact hM9

set_option maxRecDepth 20000 in
set_option maxHeartbeats 2000000 in
theorem solve_F (A V : Option Addr) (n cA m cV : Nat) (L : Nat → Nat) (G : Nat → Nat → Fin 4) (v : Nat → Fin 4) (w : World) (hn : n ≤ 1000000000000) (hL : ∀ i, i < n → L i ≤ 1000000000000) (hm : m ≤ 1000000000000)
    (hA : MI w A n L fun i j => (G i j).val) (hV : Rd w V m fun i => .int .i64 ((v i).val : Nat)) :
    Calls Try.prog 75 #[.int .i64 4, .slice A n cA, .slice V m cV] w fun e w' => ∃ (er : Int) (x : Nat → Fin 4) (Av : Option Addr) (cv : Nat), e = .returned (.tuple #[.slice Av (if er = 0 then n else 0) cv, .int .i64 er]) ∧ SolP gF n L m G v er x ∧ Below w.heap.size w w' ∧ MI w' Av (if er = 0 then n else 0) (fun _ => 1) (fun i _ => (x i).val) := by
  have h1 : ∀ i, i < n → L i ≤ 9223372036854775807 := fun i hi => by have := hL i hi; omega
  have h3 : ∀ i, i < n → L i * 8 ≤ 140737488351232 := fun i hi => by have := hL i hi; omega
  have H1 := Lib.hid h1; have H3 := Lib.hid h3
  clear h1 h3 hL
  go_enter Try.func75, Try.ntmps75
  go_wp2_with fail
  refine (fourss_any A n cA L (fun i j => (G i j).val) _ (by omega) H3.out hA).mono ?_
  rintro e w4 ⟨v4, S4, C4, rfl, hO4, hb4⟩
  obtain ⟨A4, c4, rfl, _, _, hE4⟩ := hO4.rdm2
  have hV4 := hV.below hb4
  clear hO4 hA hV
  go_wp2_with fail
  refine (fours_any V m cV (fun i => (v i).val) _ (by omega) hV4).mono ?_
  rintro e w5 ⟨v5, rfl, hO5, hb5⟩
  obtain ⟨A5, c5, rfl, hcap5, _, hV5⟩ := hO5.rd2
  have hbb5 := hb4.trans (hb5.mono hb4.size)
  have hE5 := MF.below hE4 hb5
  clear hb5 hb4 hV4 hO5 hE4
  go_wp2_with fail
  refine (solF_any A4 A5 n c4 m c5 L G v _ (by omega) H1.out hE5 (hV5.cells.congr fun j _ => two_cF v j) hcap5).mono ?_
  rintro e w6 ⟨er, x, A6, c6, rfl, hIP, hb6, hX6⟩
  have hbF := hbb5.trans (hb6.mono hbb5.size)
  have hsm := hIP.small
  have HIP := Lib.hid hIP
  generalize hk : (if er = 0 then n else 0) = K at *
  have HKK := Lib.hid hk
  have HX := Lib.hid hX6; have HBF := Lib.hid hbF
  clear hb6 hE5 hV5 hbb5 hIP hcap5 hk hX6 hbF
  have hbr : Below w6.heap.size w6 w6 := Below.refl _ _
  obtain ⟨B0, hB0⟩ : ∃ B0, B0 = w6.heap.size := ⟨_, rfl⟩
  rw [← hB0] at hbr
  have HB0 := Lib.hid hB0; clear hB0
  go_wp2
  go_loopg [8, 17] K (fun gk mv i wr => ∃ (k : Nat) (S : Nat → Option Addr) (C : Nat → Nat), k ≤ K ∧ gk = K - k ∧ i = .int .i64 k ∧ OwnQ wr B0 23 3 1 mv k S C (fun _ => 1) (fun i _ => [.int .i64 ((x i).val : Nat)]) ∧ Below B0 w6 wr)
  case atStart => exact ⟨0, fun _ => none, fun _ => 0, Nat.zero_le _, rfl, rfl, OwnQ.nil _ _ _ _ _ _ _ _ _, hbr⟩
  case round =>
    clear hbr
    obtain ⟨k, S, C, hk, rfl, rfl, hown, hbel⟩ := hrel
    have hsz : B0 ≤ wr.heap.size := by rw [HB0.out]; exact hbel.size
    rw [HB0.out] at hbel
    have hbel : Below w6.heap.size w6 wr := hbel
    by_cases hlt : k < K
    · skip
      obtain ⟨b, o, rfl, hb, hc0, hc1⟩ := HX.out k hlt
      have hc' : wr.cell? ⟨b, o + k * 2, none⟩ = some (.bool (f0 (x k).val)) := (hbel.cell hb).trans hc0
      have hc2 : wr.cell? ⟨b, o + k * 2 + 1, none⟩ = some (.bool (f1 (x k).val)) := (hbel.cell hb).trans hc1
      have hLit := lit2x wr (.bool (f0 (x k).val)) (.bool (f1 (x k).val)) 47 68
      clear hc0 hc1
      rw [← HB0.out] at hbel
      have HLit := Lib.hid hLit
      have HBW : Hid (Below wr.heap.size wr ((wr.alloc (.cells #[.bool (f0 (x k).val), .bool (f1 (x k).val)] 47)).alloc (.cells #[.slice (some ⟨wr.heap.size, 0, none⟩) 1 1] 68))) := ((Below.refl _ _).alloc (Nat.le_refl _) _).alloc (by simp) _
      clear hLit
      go_wp2_with fail
      refine (intsF_any (some ⟨wr.heap.size + 1, 0, none⟩) 1 1 (fun _ => 1) (fun _ _ => (x k).val) ((wr.alloc (.cells #[.bool (f0 (x k).val), .bool (f1 (x k).val)] 47)).alloc (.cells #[.slice (some ⟨wr.heap.size, 0, none⟩) 1 1] 68)) (by decide) (fun _ _ => by decide) (fun _ _ => (x k).isLt) HLit.out).mono ?_
      rintro e w7 ⟨v7, S7, C7, rfl, hO7, hb7⟩
      have hr7 := (hO7.2 0 (by decide)).mono (B' := B0) (by have := HBW.out.size; omega)
      obtain ⟨A7, c7, rfl, _, _, hT7, _⟩ := hO7.1.rd
      obtain ⟨b7, o7, rfl, _, hc7⟩ := hT7 0 (by decide)
      rw [Nat.add_zero] at hc7
      replace hc7 : w7.cell? ⟨b7, o7, none⟩ = some (.slice (S7 0) 1 (C7 0)) := hc7
      have hbW7 : Below wr.heap.size wr w7 := HBW.out.trans (hb7.mono HBW.out.size)
      have hownB := (hown.kept hbW7).next (S7 0) (C7 0)
      have hrow' : Own w7 B0 3 1 (.slice (upd S k (S7 0) k) 1 (upd C k (C7 0) k)) 1 (fun _ => [.int .i64 ((x k).val : Nat)]) := by
        rw [upd_at, upd_at]; exact hr7
      generalize S7 0 = A8 at *
      generalize C7 0 = c8 at *
      have hu : Hid ((#[Value.slice A8 1 c8] : Array Value).toList = [.slice (upd S k A8 k) 1 (upd C k c8 k)]) := by rw [upd_at, upd_at]; rfl
      have hbelB := hbel.trans (hbW7.mono hsz)
      have hszB := hbelB.size
      rw [← HB0.out] at hszB
      have HSB := Lib.hid hszB
      clear hown hbel hszB hbW7 hb7 hO7 hT7 hr7 HLit HBW hc' hc2
      go_wp2_with (at_builtin; refine wpList_push _ rfl (.tmp 90) (.tmp 100) 22 rfl B0 23 1 24 (.slice none 0 0) #[.slice A8 1 c8] Try.underlying22 intsInfo rfl (by decide) _ k _ rfl hownB.1 HSB.out _ rfl rfl hu.out rfl rfl (by omega) (by omega) ?_)
      intro v' w8 hown4 hbel4 hg4 _
      have hO := hownB.push (by decide) hrow' hown4 hg4
      have hbelF := hbelB.trans hbel4
      clear hownB hrow' hown4 hg4 hbel4 hbelB
      go_wp2
      go_roundg (K - (k + 1))
      case measure => omega
      case rel => exact ⟨k + 1, _, _, by omega, rfl, by go_num, hO, hbelF⟩
    · have : k = K := by omega
      subst this
      obtain ⟨A9, c9, rfl, _, _, hM9⟩ := hown.rdm
      have HF : Hid (Below w.heap.size w wr) := HBF.out.trans (hbel.mono HBF.out.size)
      clear hown hbel
      go_wp2
      go_ret2
      refine ⟨er, x, A9, c9, ?_, HIP.out, HF.out, ?_⟩
      · rw [HKK.out]; rfl
      · rw [HKK.out]; exact hM9

theorem solve_any {s : Nat} {F : Fd (Fin s)} (hF : Fld s F) (A V : Option Addr) (n cA m cV : Nat) (L : Nat → Nat) (G : Nat → Nat → Fin s) (v : Nat → Fin s) (w : World) (hn : n ≤ 1000000000000) (hL : ∀ i, i < n → L i ≤ 1000000000000) (hm : m ≤ 1000000000000)
    (hA : MI w A n L fun i j => (G i j).val) (hV : Rd w V m fun i => .int .i64 ((v i).val : Nat)) :
    Calls Try.prog 75 #[.int .i64 (s : Nat), .slice A n cA, .slice V m cV] w fun e w' => ∃ (er : Int) (x : Nat → Fin s) (Av : Option Addr) (cv : Nat), e = .returned (.tuple #[.slice Av (if er = 0 then n else 0) cv, .int .i64 er]) ∧ SolP F n L m G v er x ∧ Below w.heap.size w w' ∧ MI w' Av (if er = 0 then n else 0) (fun _ => 1) (fun i _ => (x i).val) := by
  cases hF
  · exact solve_E A V n cA m cV L G v w hn hL hm hA hV
  · exact solve_B A V n cA m cV L G v w hn hL hm hA hV
  · exact solve_F A V n cA m cV L G v w hn hL hm hA hV
end Go.Proofs.Ytpocjpodeahanaa
