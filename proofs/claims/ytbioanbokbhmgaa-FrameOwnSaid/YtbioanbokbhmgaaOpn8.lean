/- frame.open: the walk. Conditions: bytes. -/
import Derived.Test.YtbioanbokbhmgaaOpnD
namespace Go.Proofs.Ytbioanbokbhmgaa
open Go.RowKit

set_option maxRecDepth 100000 in
set_option maxHeartbeats 8000000 in
theorem opn_any (A : Option Addr) (c : Nat) (b : List Nat) (w : World) (hx : ∀ x ∈ b, x < 256) (hbl : b.length ≤ 150000000000000) (hbc : b.length ≤ c) (hc : c ≤ maxLen) (hA : RL w A b) :
    Calls Try.prog 59 #[.slice A b.length c] w (OpnPost w b) := by
  have HX := Lib.hid hx
  clear hx
  by_cases h36 : b.length < 36
  · have HE := Lib.hid (show headE b = 70 by unfold headE; rw [if_pos h36])
    go_enter Try.func59, Try.ntmps59
    go_wp2_with (refine wpList_storeH rfl _ _ rfl w.heap.size #[.int .u8 0, .int .u8 0, .int .u8 0, .int .u8 0, .int .u8 0, .int .u8 0, .int .u8 0, .int .u8 0, .int .i64 0, .int .i64 0, .int .i64 0, .string ⟨#[]⟩, .int .i64 0, .int .i64 0, .int .i64 0, .int .i64 0] rfl rfl rfl #[.int .u8 0, .int .u8 0, .int .u8 0, .int .u8 0, .int .u8 0, .int .u8 0, .int .u8 0, .int .u8 0, .int .i64 0, .int .i64 0, .int .i64 0, .string ⟨#[]⟩, .int .i64 0, .int .i64 0, .int .i64 0, .int .i64 0] rfl (heap_alloc_new w _) rfl ?_; intro w9 h9 g9 z9)
    exact ret_cellH3 Try.results59 rfl rfl rfl h9 (opn_bad HE.out (by decide) (Below.trans_row ((Below.refl w.heap.size w).alloc (Nat.le_refl _) _) g9 (Nat.le_refl _) (Nat.le_of_lt (Array.getElem?_eq_some_iff.1 (heap_alloc_new w _)).1)))
  · obtain ⟨bk, bo, rfl, hbk, hc0⟩ := hA 0 (by omega)
    have HA := Lib.hid hA
    have hcell : Hid (∀ i, i < 36 → ∀ w', Below w.heap.size w w' → w'.cell? ⟨bk, bo + i, none⟩ = some (.int .u8 ((b.getD i 0 : Nat) : Int))) := fun i hi w' hb => by
      obtain ⟨b', o', e, hb', hcc⟩ := HA.out i (by omega)
      injection e with e
      injection e with e1 e2
      subst e1 e2
      exact (hb.cell hb').trans hcc
    clear hA hc0
    have k0 := getD_256 HX.out 0
    have k1 := getD_256 HX.out 1
    have k2 := getD_256 HX.out 2
    have k3 := getD_256 HX.out 3
    have E4 := Lib.hid (show b.take 4 = [b.getD 0 0, b.getD 1 0, b.getD 2 0, b.getD 3 0] from take_four (by omega))
    have hcell : Hid (∀ w', Below w.heap.size w w' → w'.cell? ⟨bk, bo, none⟩ = some (.int .u8 ((b.getD 0 0 : Nat) : Int)) ∧ w'.cell? ⟨bk, bo + 1, none⟩ = some (.int .u8 ((b.getD 1 0 : Nat) : Int)) ∧ w'.cell? ⟨bk, bo + 2, none⟩ = some (.int .u8 ((b.getD 2 0 : Nat) : Int)) ∧ w'.cell? ⟨bk, bo + 3, none⟩ = some (.int .u8 ((b.getD 3 0 : Nat) : Int))) :=
      fun w' hb => ⟨hcell.out 0 (by decide) w' hb, hcell.out 1 (by decide) w' hb, hcell.out 2 (by decide) w' hb, hcell.out 3 (by decide) w' hb⟩
    generalize b.getD 0 0 = x0 at *
    generalize b.getD 1 0 = x1 at *
    generalize b.getD 2 0 = x2 at *
    generalize b.getD 3 0 = x3 at *
    have HE : Hid (∀ w, (Op.equalIn 10000 107 (.agg #[.int .u8 (x0 : Nat), .int .u8 (x1 : Nat), .int .u8 (x2 : Nat), .int .u8 (x3 : Nat)]) (.agg #[.int .u8 67, .int .u8 82, .int .u8 78, .int .u8 2])).run Try.prog w = .ok (decide ([x0, x1, x2, x3] = [67, 82, 78, 2])) w) := fun w => by
      obtain ⟨r, hr, h⟩ := arr4_eql (y0 := 67) (y1 := 82) (y2 := 78) (y3 := 2) k0 k1 k2 k3 (by decide) (by decide) (by decide) (by decide) w
      exact hr.trans (by rw [show r = decide ([x0, x1, x2, x3] = [67, 82, 78, 2]) by rw [Bool.eq_iff_iff, h, decide_eq_true_iff]])
    obtain ⟨q4, hq4⟩ : ∃ q4, q4 = decide ([x0, x1, x2, x3] = [67, 82, 78, 2]) := ⟨_, rfl⟩
    rw [← hq4] at HE
    have HQ := Lib.hid hq4
    clear hq4
    have harr := run_arr4 (some ⟨bk, bo, none⟩) b.length c (by omega)
    have hb0 := (Below.refl w.heap.size w).alloc (Nat.le_refl _) (.cells #[.int .u8 0, .int .u8 0, .int .u8 0, .int .u8 0, .int .u8 0, .int .u8 0, .int .u8 0, .int .u8 0, .int .i64 0, .int .i64 0, .int .i64 0, .string ⟨#[]⟩, .int .i64 0, .int .i64 0, .int .i64 0, .int .i64 0] 28)
    go_enter Try.func59, Try.ntmps59
    go_wp2_with fail
    refine wp_region_facts [.is (.slice (some ⟨bk, bo, none⟩) b.length c), .is (.pointer (some ⟨bk, bo, none⟩)), .is (.agg #[.int .u8 (x0 : Nat), .int .u8 (x1 : Nat), .int .u8 (x2 : Nat), .int .u8 (x3 : Nat)]), .is (.agg #[.int .u8 67, .int .u8 82, .int .u8 78, .int .u8 2]), .is (.bool (!q4))] mixed (by kernel_rfl) (fun hdr => ⟨?_, ?_, ?_, ?_, ?_, trivial⟩) (fun wE hbE => ?_)
    · intro a w2 hb hs K hK
      repeat (intro _)
      refine ⟨?_⟩
      have h0 : a.tmps[0]?.getD undef = .slice (some ⟨bk, bo, none⟩) b.length c := hs 0 (by kernel_rfl)
      go_simp
      exact hK.out _ _ (Below.refl _ _) rfl
    · intro a w2 hb hs K hK
      repeat (intro _)
      refine ⟨?_⟩
      have h15 : a.tmps[15]?.getD undef = .slice (some ⟨bk, bo, none⟩) b.length c := by assumption
      go_simp
      exact hK.out _ _ (Below.refl _ _) rfl
    · intro a w2 hb hs K hK
      repeat (intro _)
      refine ⟨?_⟩
      have h16 : a.tmps[16]?.getD undef = .pointer (some ⟨bk, bo, none⟩) := by assumption
      obtain ⟨z0, z1, z2, z3⟩ := hcell.out w2 (hb0.trans ((hdr.out.trans (hb.mono hdr.out.size)).mono hb0.size))
      go_simp
      exact hK.out _ _ (Below.refl _ _) rfl
    · intro a w2 hb hs K hK
      repeat (intro _)
      refine ⟨?_⟩
      go_simp
      refine (mark_any w2).mono ?_
      rintro e w3 ⟨rfl, hb3⟩
      exact hK.out _ _ hb3 rfl
    · intro a w2 hb hs K hK
      repeat (intro _)
      refine ⟨?_⟩
      have h17 : a.tmps[17]?.getD undef = .agg #[.int .u8 (x0 : Nat), .int .u8 (x1 : Nat), .int .u8 (x2 : Nat), .int .u8 (x3 : Nat)] := by assumption
      have h18 : a.tmps[18]?.getD undef = .agg #[.int .u8 67, .int .u8 82, .int .u8 78, .int .u8 2] := by assumption
      have hq := HE.out w2
      go_simp
      exact hK.out _ _ (Below.refl _ _) rfl
    intro v0 f0 v1 f1 v2 f2 v3 f3 v4 f4
    refine NoPanic.normal ?_
    simp only [Act.put, List.setIfInBounds_toArray, List.set_cons_zero, List.set_cons_succ]
  
    obtain rfl : v4 = .bool (!q4) := f4
    clear f0 f1 f2 f3
    have HW := hb0.trans (hbE.mono hb0.size)
    have hsE : wE.heap[w.heap.size]? = some (.cells #[.int .u8 0, .int .u8 0, .int .u8 0, .int .u8 0, .int .u8 0, .int .u8 0, .int .u8 0, .int .u8 0, .int .i64 0, .int .i64 0, .int .i64 0, .string ⟨#[]⟩, .int .i64 0, .int .i64 0, .int .i64 0, .int .i64 0] 28 (0, 0)) := by
      rw [hbE.block w.heap.size (by simp)]
      exact heap_alloc_new w _
    by_cases hq : q4 = true
    · subst hq
      have HMK : Hid (b.take 4 = [67, 82, 78, 2]) := E4.out.trans (of_decide_eq_true HQ.out.symm)
      have HW := Lib.hid HW
      have HS := Lib.hid hsE
      clear hsE hbE hb0 harr HE
      have hOp := open_any (some ⟨bk, bo + 4, none⟩) (c - 4) (sl b 4 32) wE (by rw [sl_length (by omega)]; decide) (sl_rl (HA.out.below HW.out) (by omega))
      rw [sl_length (by omega)] at hOp
      have HOP := Lib.hid hOp
      clear hOp
      go_wp2_with fail
      refine HOP.out.mono ?_
      rintro e w1 ⟨r, Ar, cr, rfl, hR1, hb1, hr1, hcr⟩
      obtain ⟨d, hd⟩ : ∃ d, d = sl b 4 32 := ⟨_, rfl⟩
      rw [← hd] at hR1
      have HD := Lib.hid hd
      have hdl : 32 ≤ d.length := by rw [hd, sl_length (by omega)]; decide
      have hdl2 : d.length ≤ 32 := by rw [hd, sl_length (by omega)]; decide
      have HDX : Hid (∀ x ∈ d, x < 256) := fun x hx => HX.out x (sl_mem (hd ▸ hx))
      clear hd HOP
      have HO1 := hR1.lt
      have hs1 := hb1.size
      have hsW := HS.out
      have hsl : w.heap.size < wE.heap.size := (Array.getElem?_eq_some_iff.1 hsW).1
      have hs2 := HW.out.size
      have hsB : Hid (w1.heap[w.heap.size]? = some (.cells #[.int .u8 0, .int .u8 0, .int .u8 0, .int .u8 0, .int .u8 0, .int .u8 0, .int .u8 0, .int .u8 0, .int .i64 0, .int .i64 0, .int .i64 0, .string ⟨#[]⟩, .int .i64 0, .int .i64 0, .int .i64 0, .int .i64 0] 28 (0, 0))) := (hb1.block _ hsl).trans hsW
      have HWB := Lib.hid (HW.out.trans (hb1.mono hs2))
      have OS := Lib.hid (show OpSt w (w1.alloc (.cells #[.int .u8 0, .int .u8 0, .int .u8 0, .int .u8 0, .int .u8 0, .int .u8 0, .int .u8 0, .int .u8 0, .int .i64 0, .int .i64 0, .int .i64 0, .string ⟨#[]⟩, .int .i64 0, .int .i64 0, .int .i64 0, .int .i64 0] 28)) w.heap.size w1.heap.size r #[.int .u8 0, .int .u8 0, .int .u8 0, .int .u8 0, .int .u8 0, .int .u8 0, .int .u8 0, .int .u8 0, .int .i64 0, .int .i64 0, .int .i64 0, .string ⟨#[]⟩, .int .i64 0, .int .i64 0, .int .i64 0, .int .i64 0] Ar d cr 0 from
        ⟨HWB.out.alloc (by omega) _, by rw [show (w1.alloc (.cells #[.int .u8 0, .int .u8 0, .int .u8 0, .int .u8 0, .int .u8 0, .int .u8 0, .int .u8 0, .int .u8 0, .int .i64 0, .int .i64 0, .int .i64 0, .string ⟨#[]⟩, .int .i64 0, .int .i64 0, .int .i64 0, .int .i64 0] 28)).heap[w.heap.size]? = w1.heap[w.heap.size]? from ((Below.refl _ _).alloc (Nat.le_refl _) _).block _ (by omega)]; exact hsB.out, heap_alloc_new _ _, hR1.below ((Below.refl _ _).alloc (Nat.le_refl _) _), ⟨w1, 0, hR1, Nat.le_refl _⟩, by omega, by omega, by omega, by omega, by omega, by omega⟩)
      clear hR1 hb1 hsW HS HW HWB hsB
      go_wp2_with fail
      obtain ⟨hh, hhe⟩ : ∃ hh, hh = w1.heap.size := ⟨_, rfl⟩
      rw [← hhe] at OS ⊢
      clear hhe
      generalize w1.alloc (.cells #[.int .u8 0, .int .u8 0, .int .u8 0, .int .u8 0, .int .u8 0, .int .u8 0, .int .u8 0, .int .u8 0, .int .i64 0, .int .i64 0, .int .i64 0, .string ⟨#[]⟩, .int .i64 0, .int .i64 0, .int .i64 0, .int .i64 0] 28) = v1 at *
      refine (bytes_any r Ar d cr 0 8 v1 OS.out.rd (by decide) (by omega) (by omega) hcr).mono ?_
      rintro e w2 ⟨A2, c2, rfl, r2, hR, hg⟩
      replace OS := Lib.hid (OS.out.next hg hR)
      have hE8 : sl d 0 8 = [b.getD 4 0, b.getD 5 0, b.getD 6 0, b.getD 7 0, b.getD 8 0, b.getD 9 0, b.getD 10 0, b.getD 11 0] := by
        rw [HD.out, sl_sl b 4 32 0 8 (by decide)]; exact sl_eight (by omega)
      rw [hE8] at r2 ⊢
      clear hE8 hR hg
      obtain ⟨b2, o2, rfl, _, _⟩ := r2 0 (by simp)
      have R8 := rl_eight r2
      have HY : Hid ((hdOf b).s0 = ((b.getD 4 0 : Nat) : Int) ∧ (hdOf b).s1 = ((b.getD 5 0 : Nat) : Int) ∧ (hdOf b).s2 = ((b.getD 6 0 : Nat) : Int) ∧ (hdOf b).s3 = ((b.getD 7 0 : Nat) : Int) ∧ (hdOf b).s4 = ((b.getD 8 0 : Nat) : Int) ∧ (hdOf b).s5 = ((b.getD 9 0 : Nat) : Int) ∧ (hdOf b).s6 = ((b.getD 10 0 : Nat) : Int) ∧ (hdOf b).s7 = ((b.getD 11 0 : Nat) : Int)) := ⟨rfl, rfl, rfl, rfl, rfl, rfl, rfl, rfl⟩
      generalize b.getD 4 0 = y0 at *
      generalize b.getD 5 0 = y1 at *
      generalize b.getD 6 0 = y2 at *
      generalize b.getD 7 0 = y3 at *
      generalize b.getD 8 0 = y4 at *
      generalize b.getD 9 0 = y5 at *
      generalize b.getD 10 0 = y6 at *
      generalize b.getD 11 0 = y7 at *
      obtain ⟨t0, t1, t2, t3, t4, t5, t6, t7⟩ := R8
      have harr := run_arr8 (some ⟨b2, o2, none⟩) 8 c2 (by decide)
      go_wp2_with (refine wpList_storePart rfl 22 _ _ rfl hh 0 #[.int .u8 (y0 : Int), .int .u8 (y1 : Int), .int .u8 (y2 : Int), .int .u8 (y3 : Int), .int .u8 (y4 : Int), .int .u8 (y5 : Int), .int .u8 (y6 : Int), .int .u8 (y7 : Int)] rfl rfl (by kernel_rfl) 28 #[.int .u8 0, .int .u8 0, .int .u8 0, .int .u8 0, .int .u8 0, .int .u8 0, .int .u8 0, .int .u8 0, .int .i64 0, .int .i64 0, .int .i64 0, .string ⟨#[]⟩, .int .i64 0, .int .i64 0, .int .i64 0, .int .i64 0] (show 8 ≤ 16 by decide) OS.out.hd rfl ?_; intro w2s h8 g8 z8)
      clear harr t0 t1 t2 t3 t4 t5 t6 t7
      replace OS := Lib.hid (OpSt.row OS.out (cs' := #[.int .u8 (y0 : Int), .int .u8 (y1 : Int), .int .u8 (y2 : Int), .int .u8 (y3 : Int), .int .u8 (y4 : Int), .int .u8 (y5 : Int), .int .u8 (y6 : Int), .int .u8 (y7 : Int), .int .i64 0, .int .i64 0, .int .i64 0, .string ⟨#[]⟩, .int .i64 0, .int .i64 0, .int .i64 0, .int .i64 0]) h8 g8)
      clear h8 g8 z8
      refine (take8_any r Ar d cr 8 w2s OS.out.rd (by omega) (by omega) hcr HDX.out).mono ?_
      rintro e w3 ⟨rfl, hR, hg⟩
      replace OS := Lib.hid (OS.out.next hg hR)
      clear hR hg
      obtain ⟨nK, hnK⟩ : ∃ n, n = num d 8 1 := ⟨_, rfl⟩
      rw [← hnK]
      have hltnK : nK < 256 := by rw [hnK]; exact num_lt HDX.out (by omega)
      have HnK : Hid (nK = num b 12 1) := by rw [hnK, HD.out]; exact num_sl b 4 32 8 1 (by decide)
      clear hnK
      have hwr : IntKind.i64.wrap (nK : Int) = (nK : Int) := by rw [IntKind.wrap_i64]; omega
      have hcl : w3.cell? ⟨hh, 8, none⟩ = some (.int .i64 0) := by have := OS.out.hd; simp [World.cell?, this]
      have hfz : w3.frozen? ⟨hh, 8, none⟩ = false := by have := OS.out.hd; simp [World.frozen?, this]
      go_wp2_with fail
      clear hcl hfz hwr
      replace OS := Lib.hid (show OpSt w (w3.setCell ⟨hh, 8, none⟩ (.int .i64 (nK : Int))) w.heap.size hh r #[.int .u8 (y0 : Int), .int .u8 (y1 : Int), .int .u8 (y2 : Int), .int .u8 (y3 : Int), .int .u8 (y4 : Int), .int .u8 (y5 : Int), .int .u8 (y6 : Int), .int .u8 (y7 : Int), .int .i64 (nK : Int), .int .i64 0, .int .i64 0, .string ⟨#[]⟩, .int .i64 0, .int .i64 0, .int .i64 0, .int .i64 0] Ar d cr 9 from OS.out.set 8 _)
      generalize w3.setCell ⟨hh, 8, none⟩ (.int .i64 (nK : Int)) = v3 at *
      refine (take8_any r Ar d cr 9 v3 OS.out.rd (by omega) (by omega) hcr HDX.out).mono ?_
      rintro e w4 ⟨rfl, hR, hg⟩
      replace OS := Lib.hid (OS.out.next hg hR)
      clear hR hg
      obtain ⟨nM, hnM⟩ : ∃ n, n = num d 9 1 := ⟨_, rfl⟩
      rw [← hnM]
      have hltnM : nM < 256 := by rw [hnM]; exact num_lt HDX.out (by omega)
      have HnM : Hid (nM = num b 13 1) := by rw [hnM, HD.out]; exact num_sl b 4 32 9 1 (by decide)
      clear hnM
      have hwr : IntKind.i64.wrap (nM : Int) = (nM : Int) := by rw [IntKind.wrap_i64]; omega
      have hcl : w4.cell? ⟨hh, 9, none⟩ = some (.int .i64 0) := by have := OS.out.hd; simp [World.cell?, this]
      have hfz : w4.frozen? ⟨hh, 9, none⟩ = false := by have := OS.out.hd; simp [World.frozen?, this]
      go_wp2_with fail
      clear hcl hfz hwr
      replace OS := Lib.hid (show OpSt w (w4.setCell ⟨hh, 9, none⟩ (.int .i64 (nM : Int))) w.heap.size hh r #[.int .u8 (y0 : Int), .int .u8 (y1 : Int), .int .u8 (y2 : Int), .int .u8 (y3 : Int), .int .u8 (y4 : Int), .int .u8 (y5 : Int), .int .u8 (y6 : Int), .int .u8 (y7 : Int), .int .i64 (nK : Int), .int .i64 (nM : Int), .int .i64 0, .string ⟨#[]⟩, .int .i64 0, .int .i64 0, .int .i64 0, .int .i64 0] Ar d cr 10 from OS.out.set 9 _)
      generalize w4.setCell ⟨hh, 9, none⟩ (.int .i64 (nM : Int)) = v4 at *
      refine (take32_any r Ar d cr 10 v4 OS.out.rd (by omega) (by omega) hcr HDX.out).mono ?_
      rintro e w5 ⟨rfl, hR, hg⟩
      replace OS := Lib.hid (OS.out.next hg hR)
      clear hR hg
      obtain ⟨nB, hnB⟩ : ∃ n, n = num d 10 4 := ⟨_, rfl⟩
      rw [← hnB]
      have hltnB : nB < 4294967296 := by rw [hnB]; exact num_lt HDX.out (by omega)
      have HnB : Hid (nB = num b 14 4) := by rw [hnB, HD.out]; exact num_sl b 4 32 10 4 (by decide)
      clear hnB
      have hwr : IntKind.i64.wrap (nB : Int) = (nB : Int) := by rw [IntKind.wrap_i64]; omega
      have hcl : w5.cell? ⟨hh, 10, none⟩ = some (.int .i64 0) := by have := OS.out.hd; simp [World.cell?, this]
      have hfz : w5.frozen? ⟨hh, 10, none⟩ = false := by have := OS.out.hd; simp [World.frozen?, this]
      go_wp2_with fail
      clear hcl hfz hwr
      replace OS := Lib.hid (show OpSt w (w5.setCell ⟨hh, 10, none⟩ (.int .i64 (nB : Int))) w.heap.size hh r #[.int .u8 (y0 : Int), .int .u8 (y1 : Int), .int .u8 (y2 : Int), .int .u8 (y3 : Int), .int .u8 (y4 : Int), .int .u8 (y5 : Int), .int .u8 (y6 : Int), .int .u8 (y7 : Int), .int .i64 (nK : Int), .int .i64 (nM : Int), .int .i64 (nB : Int), .string ⟨#[]⟩, .int .i64 0, .int .i64 0, .int .i64 0, .int .i64 0] Ar d cr 14 from OS.out.set 10 _)
      generalize w5.setCell ⟨hh, 10, none⟩ (.int .i64 (nB : Int)) = v5 at *
      refine (take32_any r Ar d cr 14 v5 OS.out.rd (by omega) (by omega) hcr HDX.out).mono ?_
      rintro e w6 ⟨rfl, hR, hg⟩
      replace OS := Lib.hid (OS.out.next hg hR)
      clear hR hg
      obtain ⟨nS, hnS⟩ : ∃ n, n = num d 14 4 := ⟨_, rfl⟩
      rw [← hnS]
      have hltnS : nS < 4294967296 := by rw [hnS]; exact num_lt HDX.out (by omega)
      have HnS : Hid (nS = num b 18 4) := by rw [hnS, HD.out]; exact num_sl b 4 32 14 4 (by decide)
      clear hnS
      have hwr : IntKind.i64.wrap (nS : Int) = (nS : Int) := by rw [IntKind.wrap_i64]; omega
      have hcl : w6.cell? ⟨hh, 12, none⟩ = some (.int .i64 0) := by have := OS.out.hd; simp [World.cell?, this]
      have hfz : w6.frozen? ⟨hh, 12, none⟩ = false := by have := OS.out.hd; simp [World.frozen?, this]
      go_wp2_with fail
      clear hcl hfz hwr
      replace OS := Lib.hid (show OpSt w (w6.setCell ⟨hh, 12, none⟩ (.int .i64 (nS : Int))) w.heap.size hh r #[.int .u8 (y0 : Int), .int .u8 (y1 : Int), .int .u8 (y2 : Int), .int .u8 (y3 : Int), .int .u8 (y4 : Int), .int .u8 (y5 : Int), .int .u8 (y6 : Int), .int .u8 (y7 : Int), .int .i64 (nK : Int), .int .i64 (nM : Int), .int .i64 (nB : Int), .string ⟨#[]⟩, .int .i64 (nS : Int), .int .i64 0, .int .i64 0, .int .i64 0] Ar d cr 18 from OS.out.set 12 _)
      generalize w6.setCell ⟨hh, 12, none⟩ (.int .i64 (nS : Int)) = v6 at *
      refine (take8_any r Ar d cr 18 v6 OS.out.rd (by omega) (by omega) hcr HDX.out).mono ?_
      rintro e w7 ⟨rfl, hR, hg⟩
      replace OS := Lib.hid (OS.out.next hg hR)
      clear hR hg
      obtain ⟨nI, hnI⟩ : ∃ n, n = num d 18 1 := ⟨_, rfl⟩
      rw [← hnI]
      have hltnI : nI < 256 := by rw [hnI]; exact num_lt HDX.out (by omega)
      have HnI : Hid (nI = num b 22 1) := by rw [hnI, HD.out]; exact num_sl b 4 32 18 1 (by decide)
      clear hnI
      have hwr : IntKind.i64.wrap (nI : Int) = (nI : Int) := by rw [IntKind.wrap_i64]; omega
      have hcl : w7.cell? ⟨hh, 13, none⟩ = some (.int .i64 0) := by have := OS.out.hd; simp [World.cell?, this]
      have hfz : w7.frozen? ⟨hh, 13, none⟩ = false := by have := OS.out.hd; simp [World.frozen?, this]
      go_wp2_with fail
      clear hcl hfz hwr
      replace OS := Lib.hid (show OpSt w (w7.setCell ⟨hh, 13, none⟩ (.int .i64 (nI : Int))) w.heap.size hh r #[.int .u8 (y0 : Int), .int .u8 (y1 : Int), .int .u8 (y2 : Int), .int .u8 (y3 : Int), .int .u8 (y4 : Int), .int .u8 (y5 : Int), .int .u8 (y6 : Int), .int .u8 (y7 : Int), .int .i64 (nK : Int), .int .i64 (nM : Int), .int .i64 (nB : Int), .string ⟨#[]⟩, .int .i64 (nS : Int), .int .i64 (nI : Int), .int .i64 0, .int .i64 0] Ar d cr 19 from OS.out.set 13 _)
      generalize w7.setCell ⟨hh, 13, none⟩ (.int .i64 (nI : Int)) = v7 at *
      refine (take32_any r Ar d cr 19 v7 OS.out.rd (by omega) (by omega) hcr HDX.out).mono ?_
      rintro e w8 ⟨rfl, hR, hg⟩
      replace OS := Lib.hid (OS.out.next hg hR)
      clear hR hg
      obtain ⟨nE, hnE⟩ : ∃ n, n = num d 19 4 := ⟨_, rfl⟩
      rw [← hnE]
      have hltnE : nE < 4294967296 := by rw [hnE]; exact num_lt HDX.out (by omega)
      have HnE : Hid (nE = num b 23 4) := by rw [hnE, HD.out]; exact num_sl b 4 32 19 4 (by decide)
      clear hnE
      have hwr : IntKind.i64.wrap (nE : Int) = (nE : Int) := by rw [IntKind.wrap_i64]; omega
      have hcl : w8.cell? ⟨hh, 14, none⟩ = some (.int .i64 0) := by have := OS.out.hd; simp [World.cell?, this]
      have hfz : w8.frozen? ⟨hh, 14, none⟩ = false := by have := OS.out.hd; simp [World.frozen?, this]
      go_wp2_with fail
      clear hcl hfz hwr
      replace OS := Lib.hid (show OpSt w (w8.setCell ⟨hh, 14, none⟩ (.int .i64 (nE : Int))) w.heap.size hh r #[.int .u8 (y0 : Int), .int .u8 (y1 : Int), .int .u8 (y2 : Int), .int .u8 (y3 : Int), .int .u8 (y4 : Int), .int .u8 (y5 : Int), .int .u8 (y6 : Int), .int .u8 (y7 : Int), .int .i64 (nK : Int), .int .i64 (nM : Int), .int .i64 (nB : Int), .string ⟨#[]⟩, .int .i64 (nS : Int), .int .i64 (nI : Int), .int .i64 (nE : Int), .int .i64 0] Ar d cr 23 from OS.out.set 14 _)
      generalize w8.setCell ⟨hh, 14, none⟩ (.int .i64 (nE : Int)) = v8 at *
      refine (take32_any r Ar d cr 23 v8 OS.out.rd (by omega) (by omega) hcr HDX.out).mono ?_
      rintro e w9 ⟨rfl, hR, hg⟩
      replace OS := Lib.hid (OS.out.next hg hR)
      clear hR hg
      obtain ⟨nC, hnC⟩ : ∃ n, n = num d 23 4 := ⟨_, rfl⟩
      rw [← hnC]
      have hltnC : nC < 4294967296 := by rw [hnC]; exact num_lt HDX.out (by omega)
      have HnC : Hid (nC = num b 27 4) := by rw [hnC, HD.out]; exact num_sl b 4 32 23 4 (by decide)
      clear hnC
      have hwr : IntKind.i64.wrap (nC : Int) = (nC : Int) := by rw [IntKind.wrap_i64]; omega
      have hcl : w9.cell? ⟨hh, 15, none⟩ = some (.int .i64 0) := by have := OS.out.hd; simp [World.cell?, this]
      have hfz : w9.frozen? ⟨hh, 15, none⟩ = false := by have := OS.out.hd; simp [World.frozen?, this]
      go_wp2_with fail
      clear hcl hfz hwr
      replace OS := Lib.hid (show OpSt w (w9.setCell ⟨hh, 15, none⟩ (.int .i64 (nC : Int))) w.heap.size hh r #[.int .u8 (y0 : Int), .int .u8 (y1 : Int), .int .u8 (y2 : Int), .int .u8 (y3 : Int), .int .u8 (y4 : Int), .int .u8 (y5 : Int), .int .u8 (y6 : Int), .int .u8 (y7 : Int), .int .i64 (nK : Int), .int .i64 (nM : Int), .int .i64 (nB : Int), .string ⟨#[]⟩, .int .i64 (nS : Int), .int .i64 (nI : Int), .int .i64 (nE : Int), .int .i64 (nC : Int)] Ar d cr 27 from OS.out.set 15 _)
      generalize w9.setCell ⟨hh, 15, none⟩ (.int .i64 (nC : Int)) = v9 at *
      have hwr : IntKind.i64.wrap (0 : Int) = 0 := rfl
      refine (take8_any r Ar d cr 27 v9 OS.out.rd (by omega) (by omega) hcr HDX.out).mono ?_
      rintro e w10 ⟨rfl, hR, hg⟩
      replace OS := Lib.hid (OS.out.next hg hR)
      clear hR hg
      obtain ⟨nN, hnN⟩ : ∃ n, n = num d 27 1 := ⟨_, rfl⟩
      rw [← hnN]
      have hltnN : nN < 256 := by rw [hnN]; exact num_lt HDX.out (by omega)
      have HnN : Hid (nN = num b 31 1) := by rw [hnN, HD.out]; exact num_sl b 4 32 27 1 (by decide)
      clear hnN
      go_wp2_with fail
      refine (take32_any r Ar d cr 28 w10 OS.out.rd (by omega) (by omega) hcr HDX.out).mono ?_
      rintro e w11 ⟨rfl, hR, hg⟩
      replace OS := Lib.hid (OS.out.next hg hR)
      clear hR hg
      obtain ⟨nU, hnU⟩ : ∃ n, n = num d 28 4 := ⟨_, rfl⟩
      rw [← hnU]
      have hltnU : nU < 4294967296 := by rw [hnU]; exact num_lt HDX.out (by omega)
      have HnU : Hid (nU = num b 32 4) := by rw [hnU, HD.out]; exact num_sl b 4 32 28 4 (by decide)
      clear hnU
      go_wp2_with fail
      clear hwr
      have hS1 := sum_any (some ⟨bk, bo, none⟩) c (sl b 0 32) w11 (fun x hx => HX.out x (sl_mem hx)) (by rw [sl_length (by omega)]; decide) (sl_rl (p := 0) (HA.out.below OS.out.far) (by omega))
      rw [sl_length (by omega)] at hS1
      refine hS1.mono ?_
      clear hS1
      rintro e w12 ⟨rfl, hb12⟩
      replace OS := Lib.hid (OS.out.below hb12)
      obtain ⟨s1, hs1⟩ : ∃ s, s = crc (sl b 0 32) := ⟨_, rfl⟩
      rw [← hs1]
      have hs1l : s1 < 4294967296 := by rw [hs1]; exact crc_lt fun x hx => HX.out x (sl_mem hx)
      have HS1 : Hid (s1 = crc (b.take 32)) := hs1
      clear hs1 hb12
      by_cases h82 : s1 = nU
      · subst h82
        have h36i : (36 : Int) ≤ (b.length : Int) := by omega
        have hwr4 : IntKind.i64.wrap ((nN : Int) + 4) = (nN : Int) + 4 := by rw [IntKind.wrap_i64]; omega
        have HN31 : Hid (b.getD 31 0 = nN) := by rw [HnN.out]; exact (num_one (by omega)).symm
        by_cases h70 : b.length < 40 + nN
        · as_aux_lemma =>
          have hlt : ((b.length - 36 : Nat) : Int) < (nN : Int) + 4 := by omega
          have HE := Lib.hid (show headE b = 70 by unfold headE; rw [if_neg h36, if_neg (not_not_intro HMK.out), if_neg (not_not_intro (HnU.out.symm.trans HS1.out)), if_pos (by rw [HN31.out]; exact h70)])
          have HRES := Lib.hid OS.out.res
          have HF := Lib.hid OS.out.far
          clear OS
          by_cases hc36 : c = 36
          · subst hc36
            have hbe : b.length = 36 := by omega
            go_wp2_with (refine wpList_storeH rfl _ _ rfl w.heap.size #[.int .u8 0, .int .u8 0, .int .u8 0, .int .u8 0, .int .u8 0, .int .u8 0, .int .u8 0, .int .u8 0, .int .i64 0, .int .i64 0, .int .i64 0, .string ⟨#[]⟩, .int .i64 0, .int .i64 0, .int .i64 0, .int .i64 0] rfl rfl rfl #[.int .u8 0, .int .u8 0, .int .u8 0, .int .u8 0, .int .u8 0, .int .u8 0, .int .u8 0, .int .u8 0, .int .i64 0, .int .i64 0, .int .i64 0, .string ⟨#[]⟩, .int .i64 0, .int .i64 0, .int .i64 0, .int .i64 0] rfl HRES.out rfl ?_; intro w9 h9 g9 z9)
            exact ret_cellH3 Try.results59 rfl rfl rfl h9 (opn_bad HE.out (by decide) (Below.trans_row HF.out g9 (Nat.le_refl _) (Nat.le_of_lt (Array.getElem?_eq_some_iff.1 HRES.out).1)))
          · go_wp2_with (refine wpList_storeH rfl _ _ rfl w.heap.size #[.int .u8 0, .int .u8 0, .int .u8 0, .int .u8 0, .int .u8 0, .int .u8 0, .int .u8 0, .int .u8 0, .int .i64 0, .int .i64 0, .int .i64 0, .string ⟨#[]⟩, .int .i64 0, .int .i64 0, .int .i64 0, .int .i64 0] rfl rfl rfl #[.int .u8 0, .int .u8 0, .int .u8 0, .int .u8 0, .int .u8 0, .int .u8 0, .int .u8 0, .int .u8 0, .int .i64 0, .int .i64 0, .int .i64 0, .string ⟨#[]⟩, .int .i64 0, .int .i64 0, .int .i64 0, .int .i64 0] rfl HRES.out rfl ?_; intro w9 h9 g9 z9)
            exact ret_cellH3 Try.results59 rfl rfl rfl h9 (opn_bad HE.out (by decide) (Below.trans_row HF.out g9 (Nat.le_refl _) (Nat.le_of_lt (Array.getElem?_eq_some_iff.1 HRES.out).1)))
        · have hlt : ¬ ((b.length - 36 : Nat) : Int) < (nN : Int) + 4 := by omega
          have hc36 : ¬ c = 36 := by omega
          have hcvf : Rd w12 (some ⟨bk, bo + 36, none⟩) nN (fun i => .int .u8 ((b.getD (36 + i) 0 : Nat) : Int)) := fun i hi => by
            obtain ⟨b', o', e, hb', hcc⟩ := (HA.out.below OS.out.far) (36 + i) (by omega)
            injection e with e
            injection e with e1 e2
            subst e1 e2
            exact ⟨bk, bo + 36, rfl, hb', by rw [show bo + 36 + i = bo + (36 + i) by omega]; exact hcc⟩
          have hcv := conv_str w12 47 9 5 (some ⟨bk, bo + 36, none⟩) nN (c - 36) (fun i => b.getD (36 + i) 0) Try.underlying47 Try.underlying5 Try.underlying9 (fun i _ => getD_256 HX.out _) hcvf
          clear hcvf
          obtain ⟨ky, hky⟩ : ∃ ky, ky = strN nN fun i => b.getD (36 + i) 0 := ⟨_, rfl⟩
          rw [← hky] at hcv
          have HKY : Hid (ky = (hdOf b).key) := by rw [hky, ← HN31.out]; rfl
          clear hky
          have hcl : w12.cell? ⟨hh, 11, none⟩ = some (.string ⟨#[]⟩) := by have := OS.out.hd; simp [World.cell?, this]
          have hfz : w12.frozen? ⟨hh, 11, none⟩ = false := by have := OS.out.hd; simp [World.frozen?, this]
          have hnle : (nN : Int) ≤ ((b.length - 36 : Nat) : Int) := by omega
          go_wp2_with fail
          clear hcv hcl hfz
          replace OS := Lib.hid (show OpSt w (w12.setCell ⟨hh, 11, none⟩ (.string ky)) w.heap.size hh r #[.int .u8 (y0 : Int), .int .u8 (y1 : Int), .int .u8 (y2 : Int), .int .u8 (y3 : Int), .int .u8 (y4 : Int), .int .u8 (y5 : Int), .int .u8 (y6 : Int), .int .u8 (y7 : Int), .int .i64 (nK : Int), .int .i64 (nM : Int), .int .i64 (nB : Int), .string ky, .int .i64 (nS : Int), .int .i64 (nI : Int), .int .i64 (nE : Int), .int .i64 (nC : Int)] Ar d cr 32 from OS.out.set 11 _)
          generalize w12.setCell ⟨hh, 11, none⟩ (.string ky) = v12 at *

          have hkl : Hid (keyL b = sl b 36 nN) := by show keyL b = _; unfold keyL; rw [HN31.out]
          have hM := more_any s1 (some ⟨bk, bo + 36, none⟩) (c - 36) (sl b 36 nN) v12 hs1l (fun x hx => HX.out x (sl_mem hx)) (by rw [sl_length (by omega)]; omega) (sl_rl (HA.out.below OS.out.far) (by omega))
          rw [sl_length (by omega)] at hM
          refine hM.mono ?_
          clear hM
          rintro e w13 ⟨rfl, hb13⟩
          replace OS := Lib.hid (OS.out.below hb13)
          obtain ⟨s2, hs2⟩ : ∃ s, s = crm s1 (sl b 36 nN) := ⟨_, rfl⟩
          rw [← hs2]
          have HS2 : Hid (s2 = crc (b.take 32 ++ keyL b)) := by rw [hs2, HS1.out, hkl.out]; exact crc_app _ _
          have hs2l : s2 < 4294967296 := by rw [hs2]; exact crm_lt hs1l fun x hx => HX.out x (sl_mem hx)
          clear hs2 hb13
          have hO2 := open_any (some ⟨bk, bo + 36 + nN, none⟩) (c - 36 - nN) (sl b (36 + nN) 4) w13 (by rw [sl_length (by omega)]; decide) (by rw [Nat.add_assoc]; exact sl_rl (HA.out.below OS.out.far) (by omega))
          rw [sl_length (by omega)] at hO2
          have HO2 := Lib.hid hO2
          clear hO2
          have hle4 : (nN : Int) + 4 ≤ ((b.length - 36 : Nat) : Int) := by omega
          go_wp2_with fail
          refine HO2.out.mono ?_
          rintro e w14 ⟨r2, A3, c3, rfl, hR3, hb3, hr3, hc3⟩
          obtain ⟨d3, hd3⟩ : ∃ d3, d3 = sl b (36 + nN) 4 := ⟨_, rfl⟩
          rw [← hd3] at hR3
          have hdl3 : 4 ≤ d3.length := by rw [hd3, sl_length (by omega)]; decide
          have hdl4 : d3.length ≤ 4 := by rw [hd3, sl_length (by omega)]; decide
          have HDX3 : Hid (∀ x ∈ d3, x < 256) := fun x hx => HX.out x (sl_mem (hd3 ▸ hx))
          have HD3 := Lib.hid hd3
          clear hd3
          go_wp2_with fail
          refine (take32_any r2 A3 d3 c3 0 w14 hR3 (by omega) (by omega) hc3 HDX3.out).mono ?_
          rintro e w15 ⟨rfl, _, hg15⟩
          replace OS := Lib.hid (OS.out.below (below_of_g hb3 hg15 hr3))
          obtain ⟨nV, hnV⟩ : ∃ n, n = num d3 0 4 := ⟨_, rfl⟩
          rw [← hnV]
          have HnV : Hid (nV = num b (36 + b.getD 31 0) 4) := by rw [hnV, HD3.out, HN31.out]; exact num_sl b (36 + nN) 4 0 4 (by decide)
          clear hnV hb3 hg15 hr3 hR3
          have HHD : Hid (hdOf b = ⟨y0, y1, y2, y3, y4, y5, y6, y7, nK, nM, nB, ky, nS, nI, nE, nC⟩) := by
            obtain ⟨e0, e1, e2, e3, e4, e5, e6, e7⟩ := HY.out
            have eK : (hdOf b).K = (nK : Int) := by rw [HnK.out]; exact congrArg Nat.cast (num_one (by omega)).symm
            have eM : (hdOf b).M = (nM : Int) := by rw [HnM.out]; exact congrArg Nat.cast (num_one (by omega)).symm
            have eB : (hdOf b).B = (nB : Int) := by rw [HnB.out]; rfl
            have esize : (hdOf b).size = (nS : Int) := by rw [HnS.out]; rfl
            have eidx : (hdOf b).idx = (nI : Int) := by rw [HnI.out]; exact congrArg Nat.cast (num_one (by omega)).symm
            have eep : (hdOf b).ep = (nE : Int) := by rw [HnE.out]; rfl
            have ect : (hdOf b).ct = (nC : Int) := by rw [HnC.out]; rfl
            show (⟨(hdOf b).s0, (hdOf b).s1, (hdOf b).s2, (hdOf b).s3, (hdOf b).s4, (hdOf b).s5, (hdOf b).s6, (hdOf b).s7, (hdOf b).K, (hdOf b).M, (hdOf b).B, (hdOf b).key, (hdOf b).size, (hdOf b).idx, (hdOf b).ep, (hdOf b).ct⟩ : Hd) = _
            rw [e0, e1, e2, e3, e4, e5, e6, e7, eK, eM, eB, ← HKY.out, esize, eidx, eep, ect]
          have HTOP : Hid (¬ b.length < 40 + b.getD 31 0) := by rw [HN31.out]; exact h70
          by_cases h83 : s2 = nV
          · subst h83
            obtain ⟨q0, q1, q2, q3, q4, q5, q6, q7, q8, q9, q10, q11, q12, q13, q14, q15⟩ := cells_of OS.out.hd
            have hF : Calls Try.prog 20 #[.agg #[.int .u8 (y0 : Int), .int .u8 (y1 : Int), .int .u8 (y2 : Int), .int .u8 (y3 : Int), .int .u8 (y4 : Int), .int .u8 (y5 : Int), .int .u8 (y6 : Int), .int .u8 (y7 : Int), .int .i64 (nK : Int), .int .i64 (nM : Int), .int .i64 (nB : Int), .string ky, .int .i64 (nS : Int), .int .i64 (nI : Int), .int .i64 (nE : Int), .int .i64 (nC : Int)]] w15 fun e w' => e = .returned (.int .i64 (checkE ⟨y0, y1, y2, y3, y4, y5, y6, y7, nK, nM, nB, ky, nS, nI, nE, nC⟩)) ∧ Below w15.heap.size w15 w' := fcheck_any ⟨y0, y1, y2, y3, y4, y5, y6, y7, nK, nM, nB, ky, nS, nI, nE, nC⟩ w15
            have HF := Lib.hid hF
            clear hF
            go_wp2_with fail
            refine HF.out.mono ?_
            rintro e w16 ⟨rfl, hb16⟩
            replace OS := Lib.hid (OS.out.below hb16)
            clear hb16 q0 q1 q2 q3 q4 q5 q6 q7 q8 q9 q10 q11 q12 q13 q14 q15 HF
            obtain ⟨ck, hck⟩ : ∃ ck, ck = checkE ⟨y0, y1, y2, y3, y4, y5, y6, y7, nK, nM, nB, ky, nS, nI, nE, nC⟩ := ⟨_, rfl⟩
            rw [← hck]
            have HCK : Hid (ck = checkE (hdOf b)) := by rw [HHD.out]; exact hck
            clear hck
            by_cases h81 : ck = 0
            · as_aux_lemma =>
              subst h81
              go_wp2_with (first | (refine wpList_loadH rfl _ rfl hh rfl #[.int .u8 (y0 : Int), .int .u8 (y1 : Int), .int .u8 (y2 : Int), .int .u8 (y3 : Int), .int .u8 (y4 : Int), .int .u8 (y5 : Int), .int .u8 (y6 : Int), .int .u8 (y7 : Int), .int .i64 (nK : Int), .int .i64 (nM : Int), .int .i64 (nB : Int), .string ky, .int .i64 (nS : Int), .int .i64 (nI : Int), .int .i64 (nE : Int), .int .i64 (nC : Int)] rfl OS.out.hd ?_) | (refine wpList_storeH rfl _ _ rfl w.heap.size #[.int .u8 (y0 : Int), .int .u8 (y1 : Int), .int .u8 (y2 : Int), .int .u8 (y3 : Int), .int .u8 (y4 : Int), .int .u8 (y5 : Int), .int .u8 (y6 : Int), .int .u8 (y7 : Int), .int .i64 (nK : Int), .int .i64 (nM : Int), .int .i64 (nB : Int), .string ky, .int .i64 (nS : Int), .int .i64 (nI : Int), .int .i64 (nE : Int), .int .i64 (nC : Int)] rfl rfl rfl #[.int .u8 0, .int .u8 0, .int .u8 0, .int .u8 0, .int .u8 0, .int .u8 0, .int .u8 0, .int .u8 0, .int .i64 0, .int .i64 0, .int .i64 0, .string ⟨#[]⟩, .int .i64 0, .int .i64 0, .int .i64 0, .int .i64 0] rfl OS.out.res rfl ?_; intro wZ hZ gZ zZ))
              have HZ := Lib.hid (show Below w.heap.size w wZ from Below.trans_row OS.out.far gZ (Nat.le_refl _) OS.out.far.size)
              have HE0 : Hid (headE b = 0) := Lib.hid (by unfold headE; rw [if_neg h36, if_neg (not_not_intro HMK.out), if_neg (not_not_intro (HnU.out.symm.trans HS1.out)), if_neg HTOP.out, if_neg (not_not_intro (HnV.out.symm.trans HS2.out)), if_neg (not_not_intro HCK.out.symm)])
              have HGD := Lib.hid (opn_good HE0.out HHD.out ((head_hdOf HX.out HE0.out).2.trans HS2.out.symm) HZ.out)
              clear OS HZ HE0 HCK gZ zZ
              exact ret_cellH3 Try.results59 rfl rfl rfl hZ HGD.out
            · as_aux_lemma =>
              have HE := Lib.hid (show headE b = 81 by unfold headE; rw [if_neg h36, if_neg (not_not_intro HMK.out), if_neg (not_not_intro (HnU.out.symm.trans HS1.out)), if_neg HTOP.out, if_neg (not_not_intro (HnV.out.symm.trans HS2.out)), if_pos (by rw [← HCK.out]; exact h81)])
              have HRES := Lib.hid OS.out.res
              have HF := Lib.hid OS.out.far
              clear OS
              go_wp2_with (refine wpList_storeH rfl _ _ rfl w.heap.size #[.int .u8 0, .int .u8 0, .int .u8 0, .int .u8 0, .int .u8 0, .int .u8 0, .int .u8 0, .int .u8 0, .int .i64 0, .int .i64 0, .int .i64 0, .string ⟨#[]⟩, .int .i64 0, .int .i64 0, .int .i64 0, .int .i64 0] rfl rfl rfl #[.int .u8 0, .int .u8 0, .int .u8 0, .int .u8 0, .int .u8 0, .int .u8 0, .int .u8 0, .int .u8 0, .int .i64 0, .int .i64 0, .int .i64 0, .string ⟨#[]⟩, .int .i64 0, .int .i64 0, .int .i64 0, .int .i64 0] rfl HRES.out rfl ?_; intro w9 h9 g9 z9)
              exact ret_cellH3 Try.results59 rfl rfl rfl h9 (opn_bad HE.out (by decide) (Below.trans_row HF.out g9 (Nat.le_refl _) (Nat.le_of_lt (Array.getElem?_eq_some_iff.1 HRES.out).1)))

          · as_aux_lemma =>
            have HE := Lib.hid (show headE b = 82 by unfold headE; rw [if_neg h36, if_neg (not_not_intro HMK.out), if_neg (not_not_intro (HnU.out.symm.trans HS1.out)), if_neg HTOP.out, if_pos (by rw [← HnV.out, ← HS2.out]; exact fun e => h83 e.symm)])
            have HRES := Lib.hid OS.out.res
            have HF := Lib.hid OS.out.far
            clear OS
            go_wp2_with (refine wpList_storeH rfl _ _ rfl w.heap.size #[.int .u8 0, .int .u8 0, .int .u8 0, .int .u8 0, .int .u8 0, .int .u8 0, .int .u8 0, .int .u8 0, .int .i64 0, .int .i64 0, .int .i64 0, .string ⟨#[]⟩, .int .i64 0, .int .i64 0, .int .i64 0, .int .i64 0] rfl rfl rfl #[.int .u8 0, .int .u8 0, .int .u8 0, .int .u8 0, .int .u8 0, .int .u8 0, .int .u8 0, .int .u8 0, .int .i64 0, .int .i64 0, .int .i64 0, .string ⟨#[]⟩, .int .i64 0, .int .i64 0, .int .i64 0, .int .i64 0] rfl HRES.out rfl ?_; intro w9 h9 g9 z9)
            exact ret_cellH3 Try.results59 rfl rfl rfl h9 (opn_bad HE.out (by decide) (Below.trans_row HF.out g9 (Nat.le_refl _) (Nat.le_of_lt (Array.getElem?_eq_some_iff.1 HRES.out).1)))

      · as_aux_lemma =>
        have HE := Lib.hid (show headE b = 82 by unfold headE; rw [if_neg h36, if_neg (not_not_intro HMK.out), if_pos (by rw [← HnU.out, ← HS1.out]; exact fun e => h82 e.symm)])
        have HRES := Lib.hid OS.out.res
        have HF := Lib.hid OS.out.far
        clear OS
        go_wp2_with (refine wpList_storeH rfl _ _ rfl w.heap.size #[.int .u8 0, .int .u8 0, .int .u8 0, .int .u8 0, .int .u8 0, .int .u8 0, .int .u8 0, .int .u8 0, .int .i64 0, .int .i64 0, .int .i64 0, .string ⟨#[]⟩, .int .i64 0, .int .i64 0, .int .i64 0, .int .i64 0] rfl rfl rfl #[.int .u8 0, .int .u8 0, .int .u8 0, .int .u8 0, .int .u8 0, .int .u8 0, .int .u8 0, .int .u8 0, .int .i64 0, .int .i64 0, .int .i64 0, .string ⟨#[]⟩, .int .i64 0, .int .i64 0, .int .i64 0, .int .i64 0] rfl HRES.out rfl ?_; intro w9 h9 g9 z9)
        exact ret_cellH3 Try.results59 rfl rfl rfl h9 (opn_bad HE.out (by decide) (Below.trans_row HF.out g9 (Nat.le_refl _) (Nat.le_of_lt (Array.getElem?_eq_some_iff.1 HRES.out).1)))

    · have hqf : q4 = false := by simpa using hq
      subst hqf
      clear hq
      have HE := Lib.hid (show headE b = 80 by unfold headE; rw [if_neg h36, E4.out, if_pos (by simpa using HQ.out)])
      clear hbE hb0 harr
      have HW := Lib.hid HW
      have HRES := Lib.hid hsE
      clear hsE
      go_wp2_with (refine wpList_storeH rfl _ _ rfl w.heap.size #[.int .u8 0, .int .u8 0, .int .u8 0, .int .u8 0, .int .u8 0, .int .u8 0, .int .u8 0, .int .u8 0, .int .i64 0, .int .i64 0, .int .i64 0, .string ⟨#[]⟩, .int .i64 0, .int .i64 0, .int .i64 0, .int .i64 0] rfl rfl rfl #[.int .u8 0, .int .u8 0, .int .u8 0, .int .u8 0, .int .u8 0, .int .u8 0, .int .u8 0, .int .u8 0, .int .i64 0, .int .i64 0, .int .i64 0, .string ⟨#[]⟩, .int .i64 0, .int .i64 0, .int .i64 0, .int .i64 0] rfl HRES.out rfl ?_; intro w9 h9 g9 z9)
      exact ret_cellH3 Try.results59 rfl rfl rfl h9 (opn_bad HE.out (by decide) (Below.trans_row HW.out g9 (Nat.le_refl _) (Nat.le_of_lt (Array.getElem?_eq_some_iff.1 HRES.out).1)))
end Go.Proofs.Ytbioanbokbhmgaa
