/- Solve of the program: the walks. Conditions: lengths that memory bears. -/
import Derived.Test.YtpocjpodeahanaaSolP
import Derived.Test.YtpocjpodeahanaaInv
namespace Go.Proofs.Ytpocjpodeahanaa
open Go.RowKit

set_option maxRecDepth 40000 in
set_option maxHeartbeats 3000000 in
theorem solE_ok (A B : Option Addr) (n c cB : Nat) (L : Nat → Nat) (G : Nat → Nat → Fin 256) (v : Nat → Fin 256) (w : World) (hf : faultE n L = 0) (hc : colsN n L = n) (hA : ME w A n L (fun i j => (G i j).val)) (hB : Rd w B n (fun i => vE (v i))) (hcB : n ≤ cB) :
    Calls Try.prog 52 #[.slice A n c, .slice B n cB] w fun e w' => ∃ (er : Int) (x : Nat → Fin 256) (Av : Option Addr) (cv : Nat), e = .returned (.tuple #[.slice Av (if er = 0 then n else 0) cv, .int .i64 er]) ∧ SolP gE n L n G v er x ∧ Below w.heap.size w w' ∧ Rd w' Av (if er = 0 then n else 0) (fun i => vE (x i)) := by
  have hn5 := (faultE_ok hf).1
  have CA := Lib.hid (faultE_any A n c L w (by omega) (fun i hi => by have := (faultE_ok hf).2.1 i hi; omega) hA.top)
  have CC := Lib.hid (columnsE_any A n c L w hA.top)
  have HF := Lib.hid hf; have HC := Lib.hid hc
  rw [hf] at CA
  rw [hc] at CC
  have hA' : ME w A n (fun _ => n) (fun i j => (G i j).val) := by
    obtain ⟨SA, KA, h1, h2⟩ := hA
    exact ⟨SA, KA, h1.congr fun i hi => by rw [colsN_len hf i hi, hc], fun i hi => by have := h2 i hi; rw [colsN_len hf i hi, hc] at this; exact this⟩
  have HA := Lib.hid hA'; have HBv := Lib.hid hB
  obtain ⟨bV, oB, hBf⟩ : ∃ bV oB, 0 < n → B = some ⟨bV, oB, none⟩ := by
    by_cases h0 : 0 < n
    · obtain ⟨b, o, h, _⟩ := hB 0 (by omega)
      exact ⟨b, o, fun _ => h⟩
    · exact ⟨0, 0, fun h => absurd h h0⟩
  have HBf := Lib.hid hBf
  have hmk1 := run_make_row' (P := Try.prog) 31 62 (.slice none 0 0) 24 Try.underlying31 elemsInfo rfl .i64 .i64 n (by omega) (by omega)
  have hmkx := run_make_row' (P := Try.prog) 62 34 (.int .u8 0) 1 Try.underlying62 elemInfo rfl .i64 .i64 n (by omega) (by omega)
  have HMKX := Lib.hid hmkx
  have hz0 := Lib.hid (World.rowIs_made w (.slice none 0 0) n 62)
  have hb0 := Lib.hid ((Below.refl w.heap.size w).alloc (Nat.le_refl _) (.cells (madeCells #[.slice none 0 0] n) 62))
  clear hf hc hA hA' hB hBf hmkx
  go_enter Try.func52, Try.ntmps52
  go_wp2_with fail
  refine CA.out.mono ?_
  rintro e w1 ⟨rfl, rfl⟩
  go_wp2_with fail
  refine CC.out.mono ?_
  rintro e w1 ⟨rfl, rfl⟩
  clear CA CC
  go_wp2
  go_loopg [8, 34] n (fun gk _ i wr => ∃ k : Nat, k ≤ n ∧ gk = n - k ∧ i = .int .i64 k ∧ wr.rowIs w.heap.size 62 n (fun i => if i < k then Value.slice (some ⟨bV, oB + i, none⟩) 1 (cB - i) else .slice none 0 0) ∧ Below w.heap.size w wr)
  case atStart => exact ⟨0, Nat.zero_le _, rfl, rfl, hz0.out.congr fun i _ => by simp, hb0.out⟩
  case round =>
    clear hz0 hb0 hmk1
    obtain ⟨k, hk, rfl, rfl, hQ, hbel⟩ := hrel
    by_cases hlt : k < n
    · obtain rfl : B = some ⟨bV, oB, none⟩ := HBf.out (by omega)
      have hcl := hQ.cell hlt
      have hfz := hQ.frozen k
      have HQ2 := Lib.hid ((hQ.set k (.slice (some ⟨bV, oB + k, none⟩) 1 (cB - k))).congr (g := (fun i => if i < k + 1 then Value.slice (some ⟨bV, oB + i, none⟩) 1 (cB - i) else .slice none 0 0)) fun i _ => by
        by_cases e : i = k
        · subst e; simp
        · by_cases e2 : i < k
          · simp [e, e2, show i < k + 1 by omega]
          · simp [e, e2, show ¬ i < k + 1 by omega])
      have HB2 := Lib.hid (hbel.setCell (p := ⟨w.heap.size, k, none⟩) (Nat.le_refl _) (.slice (some ⟨bV, oB + k, none⟩) 1 (cB - k)))
      have hs0 : IntKind.i64.wrap ((k : Int) + 1) = (k : Int) + 1 := i64_small _ (by omega) (by omega)
      have hs1 : (0 : Int) ≤ (k : Int) := by omega
      have hs2 : (k : Int) ≤ (k : Int) + 1 := by omega
      have hs3 : (k : Int) + 1 ≤ (cB : Int) := by omega
      have hs4 : (k : Int) < (cB : Int) := by omega
      have hs5 : (k : Int) < (k : Int) + 1 := by omega
      have hs6 : k + 1 - k = 1 := by omega
      have hs7 : ((k : Int) + 1).toNat = k + 1 := by omega
      clear hQ hbel
      go_wp2
      go_roundg (n - (k + 1))
      case measure => omega
      case rel => exact ⟨k + 1, by omega, rfl, by go_num, HQ2.out, HB2.out⟩
    · have hkn : k = n := by omega
      subst k
      have hcol : ME wr (some ⟨w.heap.size, 0, none⟩) n (fun _ => 1) (fun i j => (v i).val) := ⟨fun i => some ⟨bV, oB + i, none⟩, fun i => cB - i, row_rd (hQ.congr fun i hi => by simp [hi]), fun i hi j hj => by
        obtain ⟨b', o', e3, hb', hc'⟩ := HBv.out i hi
        rw [HBf.out (by omega)] at e3
        injection e3 with e3
        injection e3 with e3 e4 _
        subst e3 e4
        have hj' : j < 1 := hj
        have hj0 : j = 0 := by omega
        subst hj0
        exact ⟨bV, oB + i, rfl, Nat.lt_of_lt_of_le hb' hbel.size, (hbel.cell hb').trans hc'⟩⟩
      have HCOL := Lib.hid hcol; have HBL := Lib.hid hbel
      clear hcol hQ hbel hlt
      go_wp2_with fail
      refine (besideE_any A (some ⟨w.heap.size, 0, none⟩) n c n n 1 G (fun i _ => v i) wr (by omega) (by omega) (by omega) (ME.below HA.out HBL.out) HCOL.out).mono ?_
      rintro e w6 ⟨bm, S6, rfl, hM6, hb6⟩
      go_wp2_with fail
      refine (clE_any bm n n (n + 1) n wr.heap.size S6 (fun i => bsd n (G i) (fun _ => v i)) w6 (by omega) (by omega) (by omega) hM6).mono ?_
      rintro e w7 ⟨Sm, N, st, p, rfl, hM7, hRR, hb7⟩
      have HB7 := Lib.hid (HBL.out.trans ((hb6.trans hb7).mono HBL.out.size))
      have hst := hRR.le
      have HRR := Lib.hid hRR; have HM7 := Lib.hid hM7
      clear hM6 hRR hb6 hb7 hM7
      by_cases hfull : st = n
      · have hge : ¬ st < n := by omega
        have HRF : Hid (gE.RR n (n + 1) n (fun i => bsd n (G i) (fun _ => v i)) N n p) := by rw [← hfull]; rw [hfull]; rw [hfull] at HRR; exact HRR.out
        have hmkx := HMKX.out
        have hzx := Lib.hid (World.rowIs_made w7 (.int .u8 0) n 34)
        have hbx := Lib.hid ((Below.refl w7.heap.size w7).alloc (Nat.le_refl _) (.cells (madeCells #[.int .u8 0] n) 34))
        clear hfull HRR
        go_wp2
        go_loopg [11, 61] n (fun gk _ i wr => ∃ k : Nat, k ≤ n ∧ gk = n - k ∧ i = .int .i64 k ∧ wr.rowIs w7.heap.size 34 n (fun i => if i < k then vE (N i n) else .int .u8 0) ∧ Below w7.heap.size w7 wr)
        case atStart => exact ⟨0, Nat.zero_le _, rfl, rfl, hzx.out.congr fun i _ => by simp, hbx.out⟩
        case round =>
          clear hzx hbx hmkx
          obtain ⟨k, hk, rfl, rfl, hX, hbel2⟩ := hrel
          by_cases hlt : k < n
          · have hxm := (HM7.out.keep hbel2).row k hlt
            have hcx : wr.cell? ⟨Sm k, n, none⟩ = some (.int .u8 ((N k n).val : Int)) := hxm.cell (show n < n + 1 by omega)
            have hct := (HM7.out.keep hbel2).top.cell hlt
            have hxx : wr.cell? ⟨w7.heap.size, k, none⟩ = some (.int .u8 0) := (hX.cell hlt).trans (by simp)
            have hxf := hX.frozen k
            have HX2 := Lib.hid ((hX.set k (vE (N k n))).congr (g := (fun i => if i < k + 1 then vE (N i n) else .int .u8 0)) fun i _ => by
              by_cases e : i = k
              · subst e; simp
              · by_cases e2 : i < k
                · simp [e, e2, show i < k + 1 by omega]
                · simp [e, e2, show ¬ i < k + 1 by omega])
            have HB2 := Lib.hid (hbel2.setCell (p := ⟨w7.heap.size, k, none⟩) (Nat.le_refl _) (vE (N k n)))
            clear hxm hX hbel2
            go_wp2
            go_roundg (n - (k + 1))
            case measure => omega
            case rel => exact ⟨k + 1, by omega, rfl, by go_num, HX2.out, HB2.out⟩
          · have hkn : k = n := by omega
            subst k
            have HMX : Hid (Rd wr (some ⟨w7.heap.size, 0, none⟩) n (fun i => vE ((fun i => N i n) i))) := row_rd (hX.congr fun i hi => by simp [hi])
            have HBX := Lib.hid (HB7.out.trans (hbel2.mono HB7.out.size))
            clear hX hbel2
            go_wp2
            go_ret2
            exact ⟨0, fun i => N i n, some ⟨w7.heap.size, 0, none⟩, ⟨n, rfl⟩, .inr (.inr (.inr ⟨HF.out, ⟨HC.out, rfl⟩, rfl, N, p, HRF.out, fun _ => rfl⟩)), HBX.out, HMX.out⟩
      · have hlt : st < n := by omega
        have HNF : Hid (¬ gE.Free n n G) := fun hf => hfull ((HRR.out.full_iff (by omega)).2 (Fd.free_bsd.2 hf))
        clear hfull
        go_wp2
        go_ret2
        exact ⟨32, fun _ => gE.z, none, 0, rfl, .inr (.inr (.inl ⟨HF.out, ⟨HC.out, rfl⟩, HNF.out, rfl⟩)), HB7.out, Rd.zero _ _ _⟩
set_option maxHeartbeats 400000 in
theorem solE_any (A B : Option Addr) (n c m cB : Nat) (L : Nat → Nat) (G : Nat → Nat → Fin 256) (v : Nat → Fin 256) (w : World) (hn : n ≤ 9223372036854775807) (hL : ∀ i, i < n → L i ≤ 9223372036854775807) (hA : ME w A n L (fun i j => (G i j).val)) (hB : Rd w B m (fun i => vE (v i))) (hcB : m ≤ cB) :
    Calls Try.prog 52 #[.slice A n c, .slice B m cB] w fun e w' => ∃ (er : Int) (x : Nat → Fin 256) (Av : Option Addr) (cv : Nat), e = .returned (.tuple #[.slice Av (if er = 0 then n else 0) cv, .int .i64 er]) ∧ SolP gE n L m G v er x ∧ Below w.heap.size w w' ∧ Rd w' Av (if er = 0 then n else 0) (fun i => vE (x i)) := by
  by_cases h : faultE n L = 0 ∧ colsN n L = n ∧ m = n
  · obtain ⟨h1, h2, rfl⟩ := h
    exact solE_ok A B m c cB L G v w h1 h2 hA hB hcB
  · have CA := Lib.hid (faultE_any A n c L w hn hL hA.top)
    have CC := Lib.hid (columnsE_any A n c L w hA.top)
    have CP : Hid (∀ er : Int, er = (if faultE n L = 0 then 31 else faultE n L) → SolP gE n L m G v er (fun _ => gE.z) ∧ (if er = 0 then n else 0) = 0) := fun er he => by
      subst he
      by_cases hf : faultE n L = 0
      · rw [if_pos hf]
        exact ⟨.inr (.inl ⟨hf, fun e => h ⟨hf, e.1, e.2⟩, rfl⟩), rfl⟩
      · rw [if_neg hf]
        exact ⟨.inl ⟨hf, rfl⟩, if_neg hf⟩
    have hh : faultE n L = 0 → colsN n L = n → m = n → False := fun a b c => h ⟨a, b, c⟩
    have fin : ∀ w', Below w.heap.size w w' → ∀ er : Int, er = (if faultE n L = 0 then 31 else faultE n L) → ∃ (er' : Int) (x : Nat → Fin 256) (Av : Option Addr) (cv : Nat), Ending.returned (.tuple #[.slice none 0 0, .int .i64 er]) = .returned (.tuple #[.slice Av (if er' = 0 then n else 0) cv, .int .i64 er']) ∧ SolP gE n L m G v er' x ∧ Below w.heap.size w w' ∧ Rd w' Av (if er' = 0 then n else 0) (fun i => vE (x i)) := fun w' hb er he => by
      obtain ⟨h1, h2⟩ := CP.out er he
      exact ⟨er, fun _ => gE.z, none, 0, by rw [h2], h1, hb, by rw [h2]; exact Rd.zero _ _ _⟩
    have FIN := Lib.hid fin
    clear h hL hA hB CP fin
    generalize faultE n L = fa at *
    generalize colsN n L = ca at *
    by_cases h1 : fa = 0
    · subst h1
      rw [if_pos rfl] at FIN
      by_cases h2 : ca = n
      · subst h2
        have t1 : ((m : Int) != (ca : Int)) = true := by rw [bne_iff_ne]; intro e; exact hh rfl rfl (by omega)
        clear hh
        go_enter Try.func52, Try.ntmps52
        go_wp2_with fail
        refine CA.out.mono ?_
        rintro e w1 ⟨rfl, rfl⟩
        go_wp2_with fail
        refine CC.out.mono ?_
        rintro e w1 ⟨rfl, rfl⟩
        clear CA CC
        go_wp2
        go_ret2
        exact FIN.out _ (Below.refl _ _) 31 rfl
      · have t1 : ((ca : Int) != (n : Int)) = true := by rw [bne_iff_ne]; omega
        clear hh
        go_enter Try.func52, Try.ntmps52
        go_wp2_with fail
        refine CA.out.mono ?_
        rintro e w1 ⟨rfl, rfl⟩
        go_wp2_with fail
        refine CC.out.mono ?_
        rintro e w1 ⟨rfl, rfl⟩
        clear CA CC
        go_wp2
        go_ret2
        exact FIN.out _ (Below.refl _ _) 31 rfl
    · have t1 : (fa != 0) = true := by simpa using h1
      rw [if_neg h1] at FIN
      clear h1 hh
      go_enter Try.func52, Try.ntmps52
      go_wp2_with fail
      refine CA.out.mono ?_
      rintro e w1 ⟨rfl, rfl⟩
      clear CA
      go_wp2
      go_ret2
      exact FIN.out _ (Below.refl _ _) fa rfl
set_option maxRecDepth 40000 in
set_option maxHeartbeats 3000000 in
theorem solB_ok (A B : Option Addr) (n c cB : Nat) (L : Nat → Nat) (G : Nat → Nat → Fin 2) (v : Nat → Fin 2) (w : World) (hf : faultE n L = 0) (hc : colsN n L = n) (hA : MB w A n L (fun i j => (G i j).val)) (hB : Rd w B n (fun i => vB (v i))) (hcB : n ≤ cB) :
    Calls Try.prog 54 #[.slice A n c, .slice B n cB] w fun e w' => ∃ (er : Int) (x : Nat → Fin 2) (Av : Option Addr) (cv : Nat), e = .returned (.tuple #[.slice Av (if er = 0 then n else 0) cv, .int .i64 er]) ∧ SolP gB n L n G v er x ∧ Below w.heap.size w w' ∧ Rd w' Av (if er = 0 then n else 0) (fun i => vB (x i)) := by
  have hn5 := (faultE_ok hf).1
  have CA := Lib.hid (faultB_any A n c L w (by omega) (fun i hi => by have := (faultE_ok hf).2.1 i hi; omega) hA.top)
  have CC := Lib.hid (columnsB_any A n c L w hA.top)
  have HF := Lib.hid hf; have HC := Lib.hid hc
  rw [hf] at CA
  rw [hc] at CC
  have hA' : MB w A n (fun _ => n) (fun i j => (G i j).val) := by
    obtain ⟨SA, KA, h1, h2⟩ := hA
    exact ⟨SA, KA, h1.congr fun i hi => by rw [colsN_len hf i hi, hc], fun i hi => by have := h2 i hi; rw [colsN_len hf i hi, hc] at this; exact this⟩
  have HA := Lib.hid hA'; have HBv := Lib.hid hB
  obtain ⟨bV, oB, hBf⟩ : ∃ bV oB, 0 < n → B = some ⟨bV, oB, none⟩ := by
    by_cases h0 : 0 < n
    · obtain ⟨b, o, h, _⟩ := hB 0 (by omega)
      exact ⟨b, o, fun _ => h⟩
    · exact ⟨0, 0, fun h => absurd h h0⟩
  have HBf := Lib.hid hBf
  have hmk1 := run_make_row' (P := Try.prog) 37 65 (.slice none 0 0) 24 Try.underlying37 bitsInfo rfl .i64 .i64 n (by omega) (by omega)
  have hmkx := run_make_row' (P := Try.prog) 65 40 (.bool false) 1 Try.underlying65 bitInfo rfl .i64 .i64 n (by omega) (by omega)
  have HMKX := Lib.hid hmkx
  have hz0 := Lib.hid (World.rowIs_made w (.slice none 0 0) n 65)
  have hb0 := Lib.hid ((Below.refl w.heap.size w).alloc (Nat.le_refl _) (.cells (madeCells #[.slice none 0 0] n) 65))
  clear hf hc hA hA' hB hBf hmkx
  go_enter Try.func54, Try.ntmps54
  go_wp2_with fail
  refine CA.out.mono ?_
  rintro e w1 ⟨rfl, rfl⟩
  go_wp2_with fail
  refine CC.out.mono ?_
  rintro e w1 ⟨rfl, rfl⟩
  clear CA CC
  go_wp2
  go_loopg [8, 34] n (fun gk _ i wr => ∃ k : Nat, k ≤ n ∧ gk = n - k ∧ i = .int .i64 k ∧ wr.rowIs w.heap.size 65 n (fun i => if i < k then Value.slice (some ⟨bV, oB + i, none⟩) 1 (cB - i) else .slice none 0 0) ∧ Below w.heap.size w wr)
  case atStart => exact ⟨0, Nat.zero_le _, rfl, rfl, hz0.out.congr fun i _ => by simp, hb0.out⟩
  case round =>
    clear hz0 hb0 hmk1
    obtain ⟨k, hk, rfl, rfl, hQ, hbel⟩ := hrel
    by_cases hlt : k < n
    · obtain rfl : B = some ⟨bV, oB, none⟩ := HBf.out (by omega)
      have hcl := hQ.cell hlt
      have hfz := hQ.frozen k
      have HQ2 := Lib.hid ((hQ.set k (.slice (some ⟨bV, oB + k, none⟩) 1 (cB - k))).congr (g := (fun i => if i < k + 1 then Value.slice (some ⟨bV, oB + i, none⟩) 1 (cB - i) else .slice none 0 0)) fun i _ => by
        by_cases e : i = k
        · subst e; simp
        · by_cases e2 : i < k
          · simp [e, e2, show i < k + 1 by omega]
          · simp [e, e2, show ¬ i < k + 1 by omega])
      have HB2 := Lib.hid (hbel.setCell (p := ⟨w.heap.size, k, none⟩) (Nat.le_refl _) (.slice (some ⟨bV, oB + k, none⟩) 1 (cB - k)))
      have hs0 : IntKind.i64.wrap ((k : Int) + 1) = (k : Int) + 1 := i64_small _ (by omega) (by omega)
      have hs1 : (0 : Int) ≤ (k : Int) := by omega
      have hs2 : (k : Int) ≤ (k : Int) + 1 := by omega
      have hs3 : (k : Int) + 1 ≤ (cB : Int) := by omega
      have hs4 : (k : Int) < (cB : Int) := by omega
      have hs5 : (k : Int) < (k : Int) + 1 := by omega
      have hs6 : k + 1 - k = 1 := by omega
      have hs7 : ((k : Int) + 1).toNat = k + 1 := by omega
      clear hQ hbel
      go_wp2
      go_roundg (n - (k + 1))
      case measure => omega
      case rel => exact ⟨k + 1, by omega, rfl, by go_num, HQ2.out, HB2.out⟩
    · have hkn : k = n := by omega
      subst k
      have hcol : MB wr (some ⟨w.heap.size, 0, none⟩) n (fun _ => 1) (fun i j => (v i).val) := ⟨fun i => some ⟨bV, oB + i, none⟩, fun i => cB - i, row_rd (hQ.congr fun i hi => by simp [hi]), fun i hi j hj => by
        obtain ⟨b', o', e3, hb', hc'⟩ := HBv.out i hi
        rw [HBf.out (by omega)] at e3
        injection e3 with e3
        injection e3 with e3 e4 _
        subst e3 e4
        have hj' : j < 1 := hj
        have hj0 : j = 0 := by omega
        subst hj0
        exact ⟨bV, oB + i, rfl, Nat.lt_of_lt_of_le hb' hbel.size, (hbel.cell hb').trans hc'⟩⟩
      have HCOL := Lib.hid hcol; have HBL := Lib.hid hbel
      clear hcol hQ hbel hlt
      go_wp2_with fail
      refine (besideB_any A (some ⟨w.heap.size, 0, none⟩) n c n n 1 G (fun i _ => v i) wr (by omega) (by omega) (by omega) (MB.below HA.out HBL.out) HCOL.out).mono ?_
      rintro e w6 ⟨bm, S6, rfl, hM6, hb6⟩
      go_wp2_with fail
      refine (clB_any bm n n (n + 1) n wr.heap.size S6 (fun i => bsd n (G i) (fun _ => v i)) w6 (by omega) (by omega) (by omega) hM6).mono ?_
      rintro e w7 ⟨Sm, N, st, p, rfl, hM7, hRR, hb7⟩
      have HB7 := Lib.hid (HBL.out.trans ((hb6.trans hb7).mono HBL.out.size))
      have hst := hRR.le
      have HRR := Lib.hid hRR; have HM7 := Lib.hid hM7
      clear hM6 hRR hb6 hb7 hM7
      by_cases hfull : st = n
      · have hge : ¬ st < n := by omega
        have HRF : Hid (gB.RR n (n + 1) n (fun i => bsd n (G i) (fun _ => v i)) N n p) := by rw [← hfull]; rw [hfull]; rw [hfull] at HRR; exact HRR.out
        have hmkx := HMKX.out
        have hzx := Lib.hid (World.rowIs_made w7 (.bool false) n 40)
        have hbx := Lib.hid ((Below.refl w7.heap.size w7).alloc (Nat.le_refl _) (.cells (madeCells #[.bool false] n) 40))
        clear hfull HRR
        go_wp2
        go_loopg [11, 61] n (fun gk _ i wr => ∃ k : Nat, k ≤ n ∧ gk = n - k ∧ i = .int .i64 k ∧ wr.rowIs w7.heap.size 40 n (fun i => if i < k then vB (N i n) else .bool false) ∧ Below w7.heap.size w7 wr)
        case atStart => exact ⟨0, Nat.zero_le _, rfl, rfl, hzx.out.congr fun i _ => by simp, hbx.out⟩
        case round =>
          clear hzx hbx hmkx
          obtain ⟨k, hk, rfl, rfl, hX, hbel2⟩ := hrel
          by_cases hlt : k < n
          · have hxm := (HM7.out.keep hbel2).row k hlt
            have hcx : wr.cell? ⟨Sm k, n, none⟩ = some (.bool (bB (N k n).val)) := hxm.cell (show n < n + 1 by omega)
            have hct := (HM7.out.keep hbel2).top.cell hlt
            have hxx : wr.cell? ⟨w7.heap.size, k, none⟩ = some (.bool false) := (hX.cell hlt).trans (by simp)
            have hxf := hX.frozen k
            have HX2 := Lib.hid ((hX.set k (vB (N k n))).congr (g := (fun i => if i < k + 1 then vB (N i n) else .bool false)) fun i _ => by
              by_cases e : i = k
              · subst e; simp
              · by_cases e2 : i < k
                · simp [e, e2, show i < k + 1 by omega]
                · simp [e, e2, show ¬ i < k + 1 by omega])
            have HB2 := Lib.hid (hbel2.setCell (p := ⟨w7.heap.size, k, none⟩) (Nat.le_refl _) (vB (N k n)))
            clear hxm hX hbel2
            go_wp2
            go_roundg (n - (k + 1))
            case measure => omega
            case rel => exact ⟨k + 1, by omega, rfl, by go_num, HX2.out, HB2.out⟩
          · have hkn : k = n := by omega
            subst k
            have HMX : Hid (Rd wr (some ⟨w7.heap.size, 0, none⟩) n (fun i => vB ((fun i => N i n) i))) := row_rd (hX.congr fun i hi => by simp [hi])
            have HBX := Lib.hid (HB7.out.trans (hbel2.mono HB7.out.size))
            clear hX hbel2
            go_wp2
            go_ret2
            exact ⟨0, fun i => N i n, some ⟨w7.heap.size, 0, none⟩, ⟨n, rfl⟩, .inr (.inr (.inr ⟨HF.out, ⟨HC.out, rfl⟩, rfl, N, p, HRF.out, fun _ => rfl⟩)), HBX.out, HMX.out⟩
      · have hlt : st < n := by omega
        have HNF : Hid (¬ gB.Free n n G) := fun hf => hfull ((HRR.out.full_iff (by omega)).2 (Fd.free_bsd.2 hf))
        clear hfull
        go_wp2
        go_ret2
        exact ⟨32, fun _ => gB.z, none, 0, rfl, .inr (.inr (.inl ⟨HF.out, ⟨HC.out, rfl⟩, HNF.out, rfl⟩)), HB7.out, Rd.zero _ _ _⟩
set_option maxHeartbeats 400000 in
theorem solB_any (A B : Option Addr) (n c m cB : Nat) (L : Nat → Nat) (G : Nat → Nat → Fin 2) (v : Nat → Fin 2) (w : World) (hn : n ≤ 9223372036854775807) (hL : ∀ i, i < n → L i ≤ 9223372036854775807) (hA : MB w A n L (fun i j => (G i j).val)) (hB : Rd w B m (fun i => vB (v i))) (hcB : m ≤ cB) :
    Calls Try.prog 54 #[.slice A n c, .slice B m cB] w fun e w' => ∃ (er : Int) (x : Nat → Fin 2) (Av : Option Addr) (cv : Nat), e = .returned (.tuple #[.slice Av (if er = 0 then n else 0) cv, .int .i64 er]) ∧ SolP gB n L m G v er x ∧ Below w.heap.size w w' ∧ Rd w' Av (if er = 0 then n else 0) (fun i => vB (x i)) := by
  by_cases h : faultE n L = 0 ∧ colsN n L = n ∧ m = n
  · obtain ⟨h1, h2, rfl⟩ := h
    exact solB_ok A B m c cB L G v w h1 h2 hA hB hcB
  · have CA := Lib.hid (faultB_any A n c L w hn hL hA.top)
    have CC := Lib.hid (columnsB_any A n c L w hA.top)
    have CP : Hid (∀ er : Int, er = (if faultE n L = 0 then 31 else faultE n L) → SolP gB n L m G v er (fun _ => gB.z) ∧ (if er = 0 then n else 0) = 0) := fun er he => by
      subst he
      by_cases hf : faultE n L = 0
      · rw [if_pos hf]
        exact ⟨.inr (.inl ⟨hf, fun e => h ⟨hf, e.1, e.2⟩, rfl⟩), rfl⟩
      · rw [if_neg hf]
        exact ⟨.inl ⟨hf, rfl⟩, if_neg hf⟩
    have hh : faultE n L = 0 → colsN n L = n → m = n → False := fun a b c => h ⟨a, b, c⟩
    have fin : ∀ w', Below w.heap.size w w' → ∀ er : Int, er = (if faultE n L = 0 then 31 else faultE n L) → ∃ (er' : Int) (x : Nat → Fin 2) (Av : Option Addr) (cv : Nat), Ending.returned (.tuple #[.slice none 0 0, .int .i64 er]) = .returned (.tuple #[.slice Av (if er' = 0 then n else 0) cv, .int .i64 er']) ∧ SolP gB n L m G v er' x ∧ Below w.heap.size w w' ∧ Rd w' Av (if er' = 0 then n else 0) (fun i => vB (x i)) := fun w' hb er he => by
      obtain ⟨h1, h2⟩ := CP.out er he
      exact ⟨er, fun _ => gB.z, none, 0, by rw [h2], h1, hb, by rw [h2]; exact Rd.zero _ _ _⟩
    have FIN := Lib.hid fin
    clear h hL hA hB CP fin
    generalize faultE n L = fa at *
    generalize colsN n L = ca at *
    by_cases h1 : fa = 0
    · subst h1
      rw [if_pos rfl] at FIN
      by_cases h2 : ca = n
      · subst h2
        have t1 : ((m : Int) != (ca : Int)) = true := by rw [bne_iff_ne]; intro e; exact hh rfl rfl (by omega)
        clear hh
        go_enter Try.func54, Try.ntmps54
        go_wp2_with fail
        refine CA.out.mono ?_
        rintro e w1 ⟨rfl, rfl⟩
        go_wp2_with fail
        refine CC.out.mono ?_
        rintro e w1 ⟨rfl, rfl⟩
        clear CA CC
        go_wp2
        go_ret2
        exact FIN.out _ (Below.refl _ _) 31 rfl
      · have t1 : ((ca : Int) != (n : Int)) = true := by rw [bne_iff_ne]; omega
        clear hh
        go_enter Try.func54, Try.ntmps54
        go_wp2_with fail
        refine CA.out.mono ?_
        rintro e w1 ⟨rfl, rfl⟩
        go_wp2_with fail
        refine CC.out.mono ?_
        rintro e w1 ⟨rfl, rfl⟩
        clear CA CC
        go_wp2
        go_ret2
        exact FIN.out _ (Below.refl _ _) 31 rfl
    · have t1 : (fa != 0) = true := by simpa using h1
      rw [if_neg h1] at FIN
      clear h1 hh
      go_enter Try.func54, Try.ntmps54
      go_wp2_with fail
      refine CA.out.mono ?_
      rintro e w1 ⟨rfl, rfl⟩
      clear CA
      go_wp2
      go_ret2
      exact FIN.out _ (Below.refl _ _) fa rfl
set_option maxRecDepth 40000 in
set_option maxHeartbeats 3000000 in
theorem solF_ok (A B : Option Addr) (n c cB : Nat) (L : Nat → Nat) (G : Nat → Nat → Fin 4) (v : Nat → Fin 4) (w : World) (hf : faultE n L = 0) (hc : colsN n L = n) (hA : MF w A n L (fun i j => (G i j).val)) (hB : Rd w B (n * 2) (cF v)) (hcB : n ≤ cB) :
    Calls Try.prog 56 #[.slice A n c, .slice B n cB] w fun e w' => ∃ (er : Int) (x : Nat → Fin 4) (Av : Option Addr) (cv : Nat), e = .returned (.tuple #[.slice Av (if er = 0 then n else 0) cv, .int .i64 er]) ∧ SolP gF n L n G v er x ∧ Below w.heap.size w w' ∧ Rd2 w' Av (if er = 0 then n else 0) (fun i => .bool (f0 (x i).val)) (fun i => .bool (f1 (x i).val)) := by
  have hn5 := (faultE_ok hf).1
  have CA := Lib.hid (faultF_any A n c L w (by omega) (fun i hi => by have := (faultE_ok hf).2.1 i hi; omega) hA.top)
  have CC := Lib.hid (columnsF_any A n c L w hA.top)
  have HF := Lib.hid hf; have HC := Lib.hid hc
  rw [hf] at CA
  rw [hc] at CC
  have hA' : MF w A n (fun _ => n) (fun i j => (G i j).val) := by
    obtain ⟨SA, KA, h1, h2⟩ := hA
    exact ⟨SA, KA, h1.congr fun i hi => by rw [colsN_len hf i hi, hc], fun i hi => by have := h2 i hi; rw [colsN_len hf i hi, hc] at this; exact this⟩
  have HA := Lib.hid hA'; have HBv := Lib.hid hB
  obtain ⟨bV, oB, hBf⟩ : ∃ bV oB, 0 < n → B = some ⟨bV, oB, none⟩ := by
    by_cases h0 : 0 < n
    · obtain ⟨b, o, h, _⟩ := hB 0 (by omega)
      exact ⟨b, o, fun _ => h⟩
    · exact ⟨0, 0, fun h => absurd h h0⟩
  have HBf := Lib.hid hBf
  have hmk1 := run_make_row' (P := Try.prog) 43 68 (.slice none 0 0) 24 Try.underlying43 foursInfo rfl .i64 .i64 n (by omega) (by omega)
  have hmkx := run_make_rowM (P := Try.prog) 68 47 (.agg #[.bool false, .bool false]) 2 2 Try.underlying68 fourInfo .i64 .i64 n (by omega) (by omega)
  simp only [Value.cells] at hmkx
  have HMKX := Lib.hid hmkx
  have hz0 := Lib.hid (World.rowIs_made w (.slice none 0 0) n 68)
  have hb0 := Lib.hid ((Below.refl w.heap.size w).alloc (Nat.le_refl _) (.cells (madeCells #[.slice none 0 0] n) 68))
  clear hf hc hA hA' hB hBf hmkx
  go_enter Try.func56, Try.ntmps56
  go_wp2_with fail
  refine CA.out.mono ?_
  rintro e w1 ⟨rfl, rfl⟩
  go_wp2_with fail
  refine CC.out.mono ?_
  rintro e w1 ⟨rfl, rfl⟩
  clear CA CC
  go_wp2
  go_loopg [8, 34] n (fun gk _ i wr => ∃ k : Nat, k ≤ n ∧ gk = n - k ∧ i = .int .i64 k ∧ wr.rowIs w.heap.size 68 n (fun i => if i < k then Value.slice (some ⟨bV, oB + i * 2, none⟩) 1 (cB - i) else .slice none 0 0) ∧ Below w.heap.size w wr)
  case atStart => exact ⟨0, Nat.zero_le _, rfl, rfl, hz0.out.congr fun i _ => by simp, hb0.out⟩
  case round =>
    clear hz0 hb0 hmk1
    obtain ⟨k, hk, rfl, rfl, hQ, hbel⟩ := hrel
    by_cases hlt : k < n
    · obtain rfl : B = some ⟨bV, oB, none⟩ := HBf.out (by omega)
      have hcl := hQ.cell hlt
      have hfz := hQ.frozen k
      have HQ2 := Lib.hid ((hQ.set k (.slice (some ⟨bV, oB + k * 2, none⟩) 1 (cB - k))).congr (g := (fun i => if i < k + 1 then Value.slice (some ⟨bV, oB + i * 2, none⟩) 1 (cB - i) else .slice none 0 0)) fun i _ => by
        by_cases e : i = k
        · subst e; simp
        · by_cases e2 : i < k
          · simp [e, e2, show i < k + 1 by omega]
          · simp [e, e2, show ¬ i < k + 1 by omega])
      have HB2 := Lib.hid (hbel.setCell (p := ⟨w.heap.size, k, none⟩) (Nat.le_refl _) (.slice (some ⟨bV, oB + k * 2, none⟩) 1 (cB - k)))
      have hs0 : IntKind.i64.wrap ((k : Int) + 1) = (k : Int) + 1 := i64_small _ (by omega) (by omega)
      have hs1 : (0 : Int) ≤ (k : Int) := by omega
      have hs2 : (k : Int) ≤ (k : Int) + 1 := by omega
      have hs3 : (k : Int) + 1 ≤ (cB : Int) := by omega
      have hs4 : (k : Int) < (cB : Int) := by omega
      have hs5 : (k : Int) < (k : Int) + 1 := by omega
      have hs6 : k + 1 - k = 1 := by omega
      have hs7 : ((k : Int) + 1).toNat = k + 1 := by omega
      clear hQ hbel
      go_wp2
      go_roundg (n - (k + 1))
      case measure => omega
      case rel => exact ⟨k + 1, by omega, rfl, by go_num, HQ2.out, HB2.out⟩
    · have hkn : k = n := by omega
      subst k
      have hcol : MF wr (some ⟨w.heap.size, 0, none⟩) n (fun _ => 1) (fun i j => (v i).val) := ⟨fun i => some ⟨bV, oB + i * 2, none⟩, fun i => cB - i, row_rd (hQ.congr fun i hi => by simp [hi]), fun i hi j hj => by
        obtain ⟨b', o', e3, hb', hc'⟩ := HBv.out (i * 2) (by omega)
        obtain ⟨b'', o'', e5, hb'', hc''⟩ := HBv.out (i * 2 + 1) (by omega)
        rw [HBf.out (by omega)] at e3 e5
        injection e3 with e3
        injection e3 with e3 e4 _
        injection e5 with e5
        injection e5 with e5 e6 _
        subst e3 e4 e5 e6
        rw [cF0] at hc'
        rw [cF1] at hc''
        have hj' : j < 1 := hj
        have hj0 : j = 0 := by omega
        subst hj0
        exact ⟨bV, oB + i * 2, rfl, Nat.lt_of_lt_of_le hb' hbel.size, (hbel.cell hb').trans hc', (hbel.cell hb').trans (by rw [show oB + i * 2 + 0 * 2 + 1 = oB + (i * 2 + 1) by omega]; exact hc'')⟩⟩
      have HCOL := Lib.hid hcol; have HBL := Lib.hid hbel
      clear hcol hQ hbel hlt
      go_wp2_with fail
      refine (besideF_any A (some ⟨w.heap.size, 0, none⟩) n c n n 1 G (fun i _ => v i) wr (by omega) (by omega) (by omega) (MF.below HA.out HBL.out) HCOL.out).mono ?_
      rintro e w6 ⟨bm, S6, rfl, hM6, hb6⟩
      go_wp2_with fail
      refine (clF_any bm n n (n + 1) n wr.heap.size S6 (fun i => bsd n (G i) (fun _ => v i)) w6 (by omega) (by omega) (by omega) hM6).mono ?_
      rintro e w7 ⟨Sm, N, st, p, rfl, hM7, hRR, hb7⟩
      have HB7 := Lib.hid (HBL.out.trans ((hb6.trans hb7).mono HBL.out.size))
      have hst := hRR.le
      have HRR := Lib.hid hRR; have HM7 := Lib.hid hM7
      clear hM6 hRR hb6 hb7 hM7
      by_cases hfull : st = n
      · have hge : ¬ st < n := by omega
        have HRF : Hid (gF.RR n (n + 1) n (fun i => bsd n (G i) (fun _ => v i)) N n p) := by rw [← hfull]; rw [hfull]; rw [hfull] at HRR; exact HRR.out
        have hmkx := HMKX.out
        have hzx := Lib.hid (rowIs_made2 w7 n 47)
        have hbx := Lib.hid ((Below.refl w7.heap.size w7).alloc (Nat.le_refl _) (.cells (madeCells #[.bool false, .bool false] (n * 2)) 47))
        clear hfull HRR
        go_wp2
        go_loopg [11, 61] n (fun gk _ i wr => ∃ k : Nat, k ≤ n ∧ gk = n - k ∧ i = .int .i64 k ∧ wr.rowIs w7.heap.size 47 (n * 2) (fun q => if q / 2 < k then cF (fun i => N i n) q else .bool false) ∧ Below w7.heap.size w7 wr)
        case atStart => exact ⟨0, Nat.zero_le _, rfl, rfl, hzx.out.congr fun i _ => by simp, hbx.out⟩
        case round =>
          clear hzx hbx hmkx
          obtain ⟨k, hk, rfl, rfl, hX, hbel2⟩ := hrel
          by_cases hlt : k < n
          · have hxm := (HM7.out.keep hbel2).row k hlt
            have hcx0 := hxm.cell (show n * 2 < (n + 1) * 2 by omega)
            have hcx1 := hxm.cell (show n * 2 + 1 < (n + 1) * 2 by omega)
            rw [cF0] at hcx0
            rw [cF1] at hcx1
            have hct := (HM7.out.keep hbel2).top.cell hlt
            have hxx0 : wr.cell? ⟨w7.heap.size, k * 2, none⟩ = some (.bool false) := (hX.cell (show k * 2 < n * 2 by omega)).trans (congrArg some (if_neg (show ¬ k * 2 / 2 < k by omega)))
            have hxx1 : wr.cell? ⟨w7.heap.size, k * 2 + 1, none⟩ = some (.bool false) := (hX.cell (show k * 2 + 1 < n * 2 by omega)).trans (congrArg some (if_neg (show ¬ (k * 2 + 1) / 2 < k by omega)))
            have hxf0 := hX.frozen (k * 2)
            have hxf1 := hX.frozen (k * 2 + 1)
            have HX2 := Lib.hid (((hX.set (k * 2) (.bool (f0 (N k n).val))).set (k * 2 + 1) (.bool (f1 (N k n).val))).congr (g := (fun q => if q / 2 < k + 1 then cF (fun i => N i n) q else .bool false)) fun q _ => by
              by_cases e1 : q = k * 2 + 1
              · subst e1; rw [if_pos rfl, if_pos (show (k * 2 + 1) / 2 < k + 1 by omega), cF1]
              · rw [if_neg e1]
                by_cases e2 : q = k * 2
                · subst e2; rw [if_pos rfl, if_pos (show k * 2 / 2 < k + 1 by omega), cF0]
                · rw [if_neg e2]
                  by_cases e3 : q / 2 < k
                  · rw [if_pos e3, if_pos (show q / 2 < k + 1 by omega)]
                  · rw [if_neg e3, if_neg (show ¬ q / 2 < k + 1 by omega)])
            have HB2 := Lib.hid ((hbel2.setCell (p := ⟨w7.heap.size, k * 2, none⟩) (Nat.le_refl _) (.bool (f0 (N k n).val))).setCell (p := ⟨w7.heap.size, k * 2 + 1, none⟩) (Nat.le_refl _) (.bool (f1 (N k n).val)))
            clear hxm hX hbel2
            go_wp2
            go_roundg (n - (k + 1))
            case measure => omega
            case rel => exact ⟨k + 1, by omega, rfl, by go_num, HX2.out, HB2.out⟩
          · have hkn : k = n := by omega
            subst k
            have HMX : Hid (Rd2 wr (some ⟨w7.heap.size, 0, none⟩) n (fun i => .bool (f0 ((fun i => N i n) i).val)) (fun i => .bool (f1 ((fun i => N i n) i).val))) := fun i hi => ⟨w7.heap.size, 0, rfl, hX.lt, by
            rw [Nat.zero_add, hX.cell (show i * 2 < n * 2 by omega), if_pos (show i * 2 / 2 < n by omega), cF0], by
            rw [Nat.zero_add, hX.cell (show i * 2 + 1 < n * 2 by omega), if_pos (show (i * 2 + 1) / 2 < n by omega), cF1]⟩
            have HBX := Lib.hid (HB7.out.trans (hbel2.mono HB7.out.size))
            clear hX hbel2
            go_wp2
            go_ret2
            exact ⟨0, fun i => N i n, some ⟨w7.heap.size, 0, none⟩, ⟨n, rfl⟩, .inr (.inr (.inr ⟨HF.out, ⟨HC.out, rfl⟩, rfl, N, p, HRF.out, fun _ => rfl⟩)), HBX.out, HMX.out⟩
      · have hlt : st < n := by omega
        have HNF : Hid (¬ gF.Free n n G) := fun hf => hfull ((HRR.out.full_iff (by omega)).2 (Fd.free_bsd.2 hf))
        clear hfull
        go_wp2
        go_ret2
        exact ⟨32, fun _ => gF.z, none, 0, rfl, .inr (.inr (.inl ⟨HF.out, ⟨HC.out, rfl⟩, HNF.out, rfl⟩)), HB7.out, (fun i hi => by simp at hi)⟩
set_option maxHeartbeats 400000 in
theorem solF_any (A B : Option Addr) (n c m cB : Nat) (L : Nat → Nat) (G : Nat → Nat → Fin 4) (v : Nat → Fin 4) (w : World) (hn : n ≤ 9223372036854775807) (hL : ∀ i, i < n → L i ≤ 9223372036854775807) (hA : MF w A n L (fun i j => (G i j).val)) (hB : Rd w B (m * 2) (cF v)) (hcB : m ≤ cB) :
    Calls Try.prog 56 #[.slice A n c, .slice B m cB] w fun e w' => ∃ (er : Int) (x : Nat → Fin 4) (Av : Option Addr) (cv : Nat), e = .returned (.tuple #[.slice Av (if er = 0 then n else 0) cv, .int .i64 er]) ∧ SolP gF n L m G v er x ∧ Below w.heap.size w w' ∧ Rd2 w' Av (if er = 0 then n else 0) (fun i => .bool (f0 (x i).val)) (fun i => .bool (f1 (x i).val)) := by
  by_cases h : faultE n L = 0 ∧ colsN n L = n ∧ m = n
  · obtain ⟨h1, h2, rfl⟩ := h
    exact solF_ok A B m c cB L G v w h1 h2 hA hB hcB
  · have CA := Lib.hid (faultF_any A n c L w hn hL hA.top)
    have CC := Lib.hid (columnsF_any A n c L w hA.top)
    have CP : Hid (∀ er : Int, er = (if faultE n L = 0 then 31 else faultE n L) → SolP gF n L m G v er (fun _ => gF.z) ∧ (if er = 0 then n else 0) = 0) := fun er he => by
      subst he
      by_cases hf : faultE n L = 0
      · rw [if_pos hf]
        exact ⟨.inr (.inl ⟨hf, fun e => h ⟨hf, e.1, e.2⟩, rfl⟩), rfl⟩
      · rw [if_neg hf]
        exact ⟨.inl ⟨hf, rfl⟩, if_neg hf⟩
    have hh : faultE n L = 0 → colsN n L = n → m = n → False := fun a b c => h ⟨a, b, c⟩
    have fin : ∀ w', Below w.heap.size w w' → ∀ er : Int, er = (if faultE n L = 0 then 31 else faultE n L) → ∃ (er' : Int) (x : Nat → Fin 4) (Av : Option Addr) (cv : Nat), Ending.returned (.tuple #[.slice none 0 0, .int .i64 er]) = .returned (.tuple #[.slice Av (if er' = 0 then n else 0) cv, .int .i64 er']) ∧ SolP gF n L m G v er' x ∧ Below w.heap.size w w' ∧ Rd2 w' Av (if er' = 0 then n else 0) (fun i => .bool (f0 (x i).val)) (fun i => .bool (f1 (x i).val)) := fun w' hb er he => by
      obtain ⟨h1, h2⟩ := CP.out er he
      exact ⟨er, fun _ => gF.z, none, 0, by rw [h2], h1, hb, by rw [h2]; exact (fun i hi => by simp at hi)⟩
    have FIN := Lib.hid fin
    clear h hL hA hB CP fin
    generalize faultE n L = fa at *
    generalize colsN n L = ca at *
    by_cases h1 : fa = 0
    · subst h1
      rw [if_pos rfl] at FIN
      by_cases h2 : ca = n
      · subst h2
        have t1 : ((m : Int) != (ca : Int)) = true := by rw [bne_iff_ne]; intro e; exact hh rfl rfl (by omega)
        clear hh
        go_enter Try.func56, Try.ntmps56
        go_wp2_with fail
        refine CA.out.mono ?_
        rintro e w1 ⟨rfl, rfl⟩
        go_wp2_with fail
        refine CC.out.mono ?_
        rintro e w1 ⟨rfl, rfl⟩
        clear CA CC
        go_wp2
        go_ret2
        exact FIN.out _ (Below.refl _ _) 31 rfl
      · have t1 : ((ca : Int) != (n : Int)) = true := by rw [bne_iff_ne]; omega
        clear hh
        go_enter Try.func56, Try.ntmps56
        go_wp2_with fail
        refine CA.out.mono ?_
        rintro e w1 ⟨rfl, rfl⟩
        go_wp2_with fail
        refine CC.out.mono ?_
        rintro e w1 ⟨rfl, rfl⟩
        clear CA CC
        go_wp2
        go_ret2
        exact FIN.out _ (Below.refl _ _) 31 rfl
    · have t1 : (fa != 0) = true := by simpa using h1
      rw [if_neg h1] at FIN
      clear h1 hh
      go_enter Try.func56, Try.ntmps56
      go_wp2_with fail
      refine CA.out.mono ?_
      rintro e w1 ⟨rfl, rfl⟩
      clear CA
      go_wp2
      go_ret2
      exact FIN.out _ (Below.refl _ _) fa rfl
end Go.Proofs.Ytpocjpodeahanaa
