/- Times, of matrix, over the field of four: the walk. Conditions: right matrices, numbers below four. -/
import Derived.Test.YtpocjpodeahanaaTim1
import Derived.Test.YtpocjpodeahanaaFactG
namespace Go.Proofs.Ytpocjpodeahanaa
open Go.RowKit

/-- One element of two cells is written. -/
theorem cell_two {D D' : Nat → Nat → Nat} {k j i' j' v : Nat} (h : ∀ i j'', (if i = k ∧ j'' = j then v else D i j'') = D' i j'') :
    (if i' = k ∧ j' = j * 2 + 1 then Value.bool (f1 v) else if i' = k ∧ j' = j * 2 then Value.bool (f0 v) else pcell (D i' (j' / 2)) j') = pcell (D' i' (j' / 2)) j' := by
  rw [← h]
  by_cases h1 : i' = k
  · subst h1
    by_cases h2 : j' = j * 2 + 1
    · subst h2
      rw [if_pos ⟨rfl, rfl⟩, if_pos ⟨rfl, by omega⟩]
      simp [pcell]
    · rw [if_neg (fun h => h2 h.2)]
      by_cases h3 : j' = j * 2
      · subst h3
        rw [if_pos ⟨rfl, rfl⟩, if_pos ⟨rfl, by omega⟩]
        simp [pcell]
      · rw [if_neg (fun h => h3 h.2), if_neg (fun h => by omega)]
  · rw [if_neg (fun h => h1 h.1), if_neg (fun h => h1 h.1), if_neg (fun h => h1 h.1)]
theorem pcell_row (w : World) (v : Nat) (T : TypeId) : (w.alloc (.cells #[.bool (f0 v), .bool (f1 v)] T)).rowIs w.heap.size T 2 (fun t => pcell v t) :=
  World.rowIs_alloc w #[.bool (f0 v), .bool (f1 v)] T _ (by intro i hi; match i, hi with | 0, _ => rfl | 1, _ => rfl)
theorem pcell0 (v j : Nat) : pcell v (j * 2) = .bool (f0 v) := by simp [pcell]
theorem pcell1 (v j : Nat) : pcell v (j * 2 + 1) = .bool (f1 v) := by simp [pcell]

set_option maxRecDepth 20000 in
set_option maxHeartbeats 2000000 in
theorem timF (A Bm : Option Addr) (n m cA cB : Nat) (La Lb : Nat → Nat) (ga gb : Nat → Nat → Nat) (w : World) (hfa : faultE n La = 0) (hfb : faultE m Lb = 0) (hcm : colsN n La = m) (hA : MF w A n La ga) (hB : MF w Bm m Lb gb)
    (hga : ∀ i j, ga i j < 4) (hgb : ∀ i j, gb i j < 4) :
    Calls Try.prog 46 #[.slice A n cA, .slice Bm m cB] w fun e w' => ∃ b S, e = .returned (.tuple #[.slice (some ⟨b, 0, none⟩) n n, .int .i64 0]) ∧
      Mx w' w.heap.size b 68 47 n S (colsN m Lb) (colsN m Lb * 2) (fun i j => pcell (dot 4 (ga i) (fun u => gb u (j / 2)) m) j) ∧ Below w.heap.size w w' := by
  obtain ⟨hn, hla, -⟩ := faultE_ok hfa
  obtain ⟨hm, hlb, -⟩ := faultE_ok hfb
  have CA := Lib.hid (faultF_any A n cA La w (by omega) (fun i hi => by have := hla i hi; omega) hA.top)
  have CB := Lib.hid (faultF_any Bm m cB Lb w (by omega) (fun i hi => by have := hlb i hi; omega) hB.top)
  have CC := Lib.hid (columnsF_any A n cA La w hA.top)
  have CD := Lib.hid (columnsF_any Bm m cB Lb w hB.top)
  have hCle := colsN_le hfb
  have HEA : ∀ i, i < n → La i = m := fun i hi => (colsN_len hfa i hi).trans hcm
  have HEB : ∀ i, i < m → Lb i = colsN m Lb := fun i hi => colsN_len hfb i hi
  obtain ⟨SA, KA, hA1, hA2⟩ := hA
  obtain ⟨SB, KB, hB1, hB2⟩ := hB
  have hA1 := hA1.congr (g := fun i => .slice (SA i) m (KA i)) fun i hi => by rw [HEA i hi]
  have hB1 := hB1.congr (g := fun i => .slice (SB i) (colsN m Lb) (KB i)) fun i hi => by rw [HEB i hi]
  have hA2 : ∀ i, i < n → Rd2 w (SA i) m (fun j => .bool (f0 (ga i j))) (fun j => .bool (f1 (ga i j))) := fun i hi => by have := hA2 i hi; rw [HEA i hi] at this; exact this
  have hB2 : ∀ i, i < m → Rd2 w (SB i) (colsN m Lb) (fun j => .bool (f0 (gb i j))) (fun j => .bool (f1 (gb i j))) := fun i hi => by have := hB2 i hi; rw [HEB i hi] at this; exact this
  have HGA := Lib.hid hga; have HGB := Lib.hid hgb
  rw [hfa] at CA; rw [hfb] at CB; rw [hcm] at CC
  clear hfa hfb hcm hla hlb hga hgb HEA HEB
  generalize colsN m Lb = C at *
  go_enter Try.func46, Try.ntmps46
  go_wp2_with fail
  refine CA.out.mono ?_
  rintro e w1 ⟨rfl, rfl⟩
  go_wp2_with fail
  refine CB.out.mono ?_
  rintro e w1 ⟨rfl, rfl⟩
  go_wp2_with fail
  refine CC.out.mono ?_
  rintro e w1 ⟨rfl, rfl⟩
  go_wp2_with fail
  refine CD.out.mono ?_
  rintro e w1 ⟨rfl, rfl⟩
  clear CA CB CC CD
  go_wp2_with (go_at_call 81; (with_reducible refine (zerosF n C _ (by omega) (by omega)).mono ?_); rintro e w1 ⟨rfl, hM, hbel⟩)
  go_loopg [9, 10, 11, 12, 13, 14, 37] n (fun gk _ _ _ _ _ _ i wr => ∃ k : Nat, k ≤ n ∧ gk = n - k ∧ i = .int .i64 k ∧ Below w.heap.size w wr ∧
    Mx wr w.heap.size w.heap.size 68 47 n (fun i => w.heap.size + 1 + i) C (C * 2) (fun i j => pcell (dcell 4 ga gb m k 0 0 i (j / 2)) j))
  case atStart => exact ⟨0, Nat.zero_le _, rfl, rfl, hbel, hM.congr (by intro i j _ _; simp [dcell, dot, pcell, show f0 0 = false from rfl, show f1 0 = false from rfl])⟩
  case round =>
    clear hM hbel
    obtain ⟨k, hk, rfl, rfl, hbel, hM⟩ := hrel
    by_cases hlt : k < n
    · obtain ⟨b, o, rfl, hb, hc⟩ := hA1 k hlt
      have hrowA : wr.cell? ⟨b, o + k, none⟩ = some (.slice (SA k) m (KA k)) := (hbel.cell hb).trans hc
      have hrA := hA2 k hlt
      clear hc hA2
      have HA1 := Lib.hid hA1; clear hA1
      generalize SA k = Ak at *
      go_wp2
      go_loopg [11, 12, 13, 14, 44] m (fun gk _ _ _ _ i w2 => ∃ t : Nat, t ≤ m ∧ gk = m - t ∧ i = .int .i64 t ∧ Below w.heap.size w w2 ∧
        Mx w2 w.heap.size w.heap.size 68 47 n (fun i => w.heap.size + 1 + i) C (C * 2) (fun i j => pcell (dcell 4 ga gb m k t 0 i (j / 2)) j))
      case atStart => exact ⟨0, Nat.zero_le _, rfl, rfl, hbel, hM⟩
      case round =>
        clear hM hbel hrowA
        obtain ⟨t, ht, rfl, rfl, hbel, hM⟩ := hrel
        have hsz := hbel.size
        by_cases hlt2 : t < m
        · obtain ⟨b1, o1, rfl, hb1, hx0', hx1'⟩ := hrA t hlt2
          have hx0 : wr.cell? ⟨b1, o1 + t * 2, none⟩ = some (.bool (f0 (ga k t))) := (hbel.cell hb1).trans hx0'
          have hx1 : wr.cell? ⟨b1, o1 + t * 2 + 1, none⟩ = some (.bool (f1 (ga k t))) := (hbel.cell hb1).trans hx1'
          clear hx0' hx1'
          have hbA := Lib.hid (hbel.alloc hsz (.cells #[.bool (f0 (ga k t)), .bool (f1 (ga k t))] 47))
          have hMA := Lib.hid (hM.alloc (.cells #[.bool (f0 (ga k t)), .bool (f1 (ga k t))] 47))
          have hXA := Lib.hid (pcell_row wr (ga k t) 47)
          have HZ := Lib.hid (fF_zero (HGA.out k t))
          have hrK := Lib.hid (hM.row k hlt).lt
          by_cases hz : ga k t = 0
          · have t1 : (!f0 (ga k t) && !f1 (ga k t)) = true := by rw [HZ.out, hz]; rfl
            have HZ := Lib.hid hz; clear hz
            clear hM hbel
            go_wp2_with (go_at_call 140; (with_reducible refine (zeroF_any _ _ _).mono ?_); rintro e w4 ⟨rfl, hb4⟩)
            go_roundg (m - (t + 1))
            case measure => omega
            case rel => exact ⟨t + 1, by omega, rfl, by go_num, hbA.out.trans (hb4.mono hbA.out.size), (hMA.out.keep hb4).congr fun i j _ _ => by rw [dcell_skip HZ.out]⟩
          · have t1 : (!f0 (ga k t) && !f1 (ga k t)) = false := by rw [HZ.out, beq_eq_false_iff_ne]; exact hz
            clear hz HZ hM
            obtain ⟨b2, o2, rfl, hb2, hc2⟩ := hB1 t hlt2
            have hrB := hB2 t hlt2
            clear hB2
            have hc2' : Hid (w.cell? ⟨b2, o2 + t, none⟩ = some (.slice (SB t) C (KB t))) := hc2
            have HB1 := Lib.hid hB1; clear hB1 hc2 hbel
            generalize SB t = Bt at *
            go_wp2_with (go_at_call 140; (with_reducible refine (zeroF_any _ _ _).mono ?_); rintro e w4 ⟨rfl, hb4⟩; have hrowB : w4.cell? ⟨b2, o2 + t, none⟩ = some (.slice Bt C (KB t)) := ((hbA.out.trans (hb4.mono hbA.out.size)).cell hb2).trans hc2'.out)
            have hbel := hbA.out.trans (hb4.mono hbA.out.size)
            have hM := hMA.out.keep hb4
            have hX := below_row hXA.out hb4 hXA.out.lt
            have hnb : w.heap.size + 1 + k < wr.heap.size := hrK.out
            clear hbA hMA hXA hb4 hx0 hx1
            generalize wr.heap.size = nb at *
            go_loopg [13, 14, 57] C (fun gk _ _ i w3 => ∃ j : Nat, j ≤ C ∧ gk = C - j ∧ i = .int .i64 j ∧ Below w.heap.size w w3 ∧ w3.rowIs nb 47 2 (fun u => pcell (ga k t) u) ∧
              Mx w3 w.heap.size w.heap.size 68 47 n (fun i => w.heap.size + 1 + i) C (C * 2) (fun i j' => pcell (dcell 4 ga gb m k t j i (j' / 2)) j'))
            case atStart => exact ⟨0, Nat.zero_le _, rfl, rfl, hbel, hX, hM⟩
            case round =>
              clear hM hbel hrowB hX
              obtain ⟨j, hj, rfl, rfl, hbel, hX, hM⟩ := hrel
              have hsz := hbel.size
              by_cases hlj : j < C
              · obtain ⟨b3, o3, rfl, hb3, hy0', hy1'⟩ := hrB j hlj
                have hy0 : wr.cell? ⟨b3, o3 + j * 2, none⟩ = some (.bool (f0 (gb t j))) := (hbel.cell hb3).trans hy0'
                have hy1 : wr.cell? ⟨b3, o3 + j * 2 + 1, none⟩ = some (.bool (f1 (gb t j))) := (hbel.cell hb3).trans hy1'
                clear hy0' hy1'
                have hb3' := Lib.hid (hbel.alloc hsz (.cells #[.bool (f0 (gb t j)), .bool (f1 (gb t j))] 47))
                have hM3 := Lib.hid (hM.alloc (.cells #[.bool (f0 (gb t j)), .bool (f1 (gb t j))] 47))
                have hX3 := Lib.hid (below_row hX ((Below.refl wr.heap.size wr).alloc (Nat.le_refl _) (.cells #[.bool (f0 (gb t j)), .bool (f1 (gb t j))] 47)) hX.lt)
                have hY3 := Lib.hid (pcell_row wr (gb t j) 47)
                clear hM hX hbel
                go_wp2_with fail
                clear hy0 hy1
                generalize wr.alloc (.cells #[.bool (f0 (gb t j)), .bool (f1 (gb t j))] 47) = W3 at *
                generalize wr.heap.size = yb at *
                have htop := hM3.out.top.cell hlt
                have hd0 := (hM3.out.row k hlt).cell (show j * 2 < C * 2 by omega)
                have hd1 := (hM3.out.row k hlt).cell (show j * 2 + 1 < C * 2 by omega)
                have hx0 : W3.cell? ⟨nb, 0, none⟩ = some (.bool (f0 (ga k t))) := hX3.out.cell (show 0 < 2 by omega)
                have hx1 : W3.cell? ⟨nb, 1, none⟩ = some (.bool (f1 (ga k t))) := hX3.out.cell (show 1 < 2 by omega)
                have hy0 : W3.cell? ⟨yb, 0, none⟩ = some (.bool (f0 (gb t j))) := hY3.out.cell (show 0 < 2 by omega)
                have hy1 : W3.cell? ⟨yb, 1, none⟩ = some (.bool (f1 (gb t j))) := hY3.out.cell (show 1 < 2 by omega)
                rw [pcell0, show j * 2 / 2 = j by omega] at hd0
                rw [pcell1, show (j * 2 + 1) / 2 = j by omega] at hd1
                have hxl : ga k t < 4 := HGA.out k t
                have hyl : gb t j < 4 := HGB.out t j
                have hdl : dcell 4 ga gb m k t j k j < 4 := dcell_lt (e := 2) hlt2 fun u _ => (mul4 (HGA.out k u) (HGB.out u j)).1
                have hm4 := Lib.hid (mul4 hxl hyl)
                have hx4 := Lib.hid (fF_xor hdl hm4.out.1)
                have HN : Hid (∀ i' j', (if i' = k ∧ j' = j then dcell 4 ga gb m k t j k j ^^^ mulR 4 (ga k t) (gb t j) else dcell 4 ga gb m k t j i' j') = dcell 4 ga gb m k t (j + 1) i' j') := fun i' j' => dcell_next
                clear hxl hyl hdl
                generalize dcell 4 ga gb m k t j k j = D at *
                generalize hX0 : f0 (ga k t) = X0 at *
                generalize hX1 : f1 (ga k t) = X1 at *
                generalize hY0 : f0 (gb t j) = Y0 at *
                generalize hY1 : f1 (gb t j) = Y1 at *
                generalize hD0 : f0 D = D0 at *
                generalize hD1 : f1 D = D1 at *
                clear hX0 hX1 hY0 hY1 hD0 hD1
                have hlW : w.heap.size + 1 + k < W3.heap.size := (hM3.out.row k hlt).lt
                have hlX : nb < W3.heap.size := hX3.out.lt
                have hlY : yb < W3.heap.size := hY3.out.lt
                have KS : Hid (∀ w4, Below W3.heap.size W3 w4 → w4.cell? ⟨w.heap.size, k, none⟩ = some (.slice (some ⟨w.heap.size + 1 + k, 0, none⟩) C C) ∧ w4.cell? ⟨w.heap.size + 1 + k, j * 2, none⟩ = some (.bool D0) ∧ w4.cell? ⟨w.heap.size + 1 + k, j * 2 + 1, none⟩ = some (.bool D1) ∧
                  w4.cell? ⟨nb, 0, none⟩ = some (.bool X0) ∧ w4.cell? ⟨nb, 1, none⟩ = some (.bool X1) ∧ w4.cell? ⟨yb, 0, none⟩ = some (.bool Y0) ∧ w4.cell? ⟨yb, 1, none⟩ = some (.bool Y1)) := fun w4 hb4 =>
                  ⟨(hb4.cell (by show w.heap.size < _; omega)).trans htop, (hb4.cell hlW).trans hd0, (hb4.cell hlW).trans hd1, (hb4.cell hlX).trans hx0, (hb4.cell hlX).trans hx1, (hb4.cell hlY).trans hy0, (hb4.cell hlY).trans hy1⟩
                as_aux_lemma =>
                  refine wp_region_held2 16 (fun k => Nat.beq k 3 || Nat.beq k 8 || Nat.beq k 11 || Nat.beq k 13 || Nat.beq k 15) (fun k => Nat.beq k 19) follows_mixed (by kernel_rfl) (fun w4 => w4.cell? ⟨w.heap.size, k, none⟩ = some (.slice (some ⟨w.heap.size + 1 + k, 0, none⟩) C C) ∧ w4.cell? ⟨w.heap.size + 1 + k, j * 2, none⟩ = some (.bool D0) ∧ w4.cell? ⟨w.heap.size + 1 + k, j * 2 + 1, none⟩ = some (.bool D1) ∧
                    w4.cell? ⟨nb, 0, none⟩ = some (.bool X0) ∧ w4.cell? ⟨nb, 1, none⟩ = some (.bool X1) ∧ w4.cell? ⟨yb, 0, none⟩ = some (.bool Y0) ∧ w4.cell? ⟨yb, 1, none⟩ = some (.bool Y1)) (KS.out _ (Below.refl _ _).drew) ?_
                  simp only [List.take_succ_cons, List.take_zero, List.drop_succ_cons, List.drop_zero, tag]
                  clear htop hd0 hd1 hx0 hx1 hy0 hy1
                  repeat (first
                    | (refine wpHeld_step ?_ (by rfl) (fun w4 hSw => ?_) ?_; rotate_left; (focus (obtain ⟨s1, s2, s3, s4, s5, s6, s7⟩ := hSw; go_simp; try with_reducible rfl)); simp only [Act.put, List.setIfInBounds_toArray, List.set_cons_zero, List.set_cons_succ])
                    | (refine wpHeld_pure ?_ (by rfl) (fun w4 => ?_) ?_; rotate_left; (focus (go_simp; try with_reducible rfl)); simp only [Act.put, List.setIfInBounds_toArray, List.set_cons_zero, List.set_cons_succ]))
                  refine wpHeld_nil ?_
                  refine wpTailE_step (fun K hK => ?_)
                  go_simp
                  refine (timesF_any _ _ _ _ _).mono ?_
                  rintro e w4 ⟨rfl, hb4⟩
                  have hB4 : Below W3.heap.size W3 w4 := (Below.refl _ _).drew.trans hb4
                  dsimp only
                  refine hK.out _ _ (fun _ _ => KS.out _ hB4) ?_
                  clear hK K
                  try simp only [Act.put, List.setIfInBounds_toArray, List.set_cons_zero, List.set_cons_succ]
                  refine wpTailE_step (fun K hK => ?_)
                  go_simp
                  refine (plusF_any _ _ _ _ _).mono ?_
                  rintro e w5 ⟨rfl, hb5⟩
                  have hB5 : Below W3.heap.size W3 w5 := hB4.trans (hb5.mono hB4.size)
                  dsimp only
                  refine hK.out _ _ (fun _ _ => KS.out _ hB5) ?_
                  clear hK K hb5 hB4 hb4
                  try simp only [Act.put, List.setIfInBounds_toArray, List.set_cons_zero, List.set_cons_succ]
                  refine wpTailE_step (fun K hK => ?_)
                  go_simp
                  refine hK.out _ _ (fun _ _ => KS.out _ hB5) ?_
                  clear hK K
                  try simp only [Act.put, List.setIfInBounds_toArray, List.set_cons_zero, List.set_cons_succ]
                  have r5 := below_row (hM3.out.row k hlt) hB5 hlW
                  have z0 := r5.frozen (j * 2)
                  have z1 := r5.frozen (j * 2 + 1)
                  have y0 := r5.cell (show j * 2 < C * 2 by omega)
                  have y1 := r5.cell (show j * 2 + 1 < C * 2 by omega)
                  refine wpTailE_step (fun K hK => ?_)
                  go_simp
                  refine hK.out _ _ (fun h => absurd h (by decide)) ?_
                  clear hK K z0 z1 y0 y1 r5
                  refine wpTailE_nil ?_
                  go_wp2
                  go_roundg (C - (j + 1))
                  case measure => omega
                  case rel =>
                    refine ⟨j + 1, by omega, rfl, by go_num, ((hb3'.out.trans (hB5.mono hb3'.out.size)).setCell (by show w.heap.size ≤ w.heap.size + 1 + k; omega) _).setCell (by show w.heap.size ≤ w.heap.size + 1 + k; omega) _, ((below_row hX3.out hB5 hlX).setOther (a := ⟨w.heap.size + 1 + k, j * 2, none⟩) (by show nb ≠ w.heap.size + 1 + k; omega) _).setOther (a := ⟨w.heap.size + 1 + k, j * 2 + 1, none⟩) (by show nb ≠ w.heap.size + 1 + k; omega) _, ?_⟩
                    refine (((hM3.out.keep hB5).set hlt (j * 2) _).set hlt (j * 2 + 1) _).congr fun i' j' _ _ => ?_
                    rw [← cell_two HN.out, hx4.out.1, hx4.out.2, hm4.out.2.1, hm4.out.2.2]
              · have : j = C := by omega
                subst this
                go_wp2
                go_roundg (m - (t + 1))
                case measure => omega
                case rel => exact ⟨t + 1, by omega, rfl, by go_num, hbel, hM.congr fun i j _ hj => by rw [dcell_col (show j / 2 < _ by omega)]⟩
        · have : t = m := by omega
          subst this
          go_wp2
          go_roundg (n - (k + 1))
          case measure => omega
          case rel => exact ⟨k + 1, by omega, rfl, by go_num, hbel, hM.congr fun i j _ hj => by rw [dcell_row]⟩
    · have : k = n := by omega
      subst this
      go_wp2
      go_ret2
      exact ⟨_, _, rfl, hM.congr (by intro i j hi _; simp [hi, dcell]), hbel⟩
end Go.Proofs.Ytpocjpodeahanaa
