/- Times, of matrix, over the field of 256: the walk. Conditions: right matrices, numbers below 256. -/
import Derived.Test.YtpocjpodeahanaaDot
import Derived.Test.YtpocjpodeahanaaZid
namespace Go.Proofs.Ytpocjpodeahanaa
open Go.RowKit

theorem RdM.len {w : World} {A : Option Addr} {n m : Nat} {L : Nat → Nat} {f : Nat → Nat → Value} (h : RdM w A n L f) (hl : ∀ i, i < n → L i = m) : RdM w A n (fun _ => m) f := by
  obtain ⟨S, C, h1, h2⟩ := h
  exact ⟨S, C, h1.congr fun i hi => by rw [hl i hi], fun i hi => by have := h2 i hi; rw [hl i hi] at this; exact this⟩
theorem colsN_len {n : Nat} {L : Nat → Nat} (hf : faultE n L = 0) : ∀ i, i < n → L i = colsN n L := fun i hi => by
  obtain ⟨_, _, h⟩ := faultE_ok hf
  unfold colsN
  rw [if_neg (by omega), h i hi]
theorem colsN_le {n : Nat} {L : Nat → Nat} (hf : faultE n L = 0) : colsN n L ≤ 255 := by
  obtain ⟨_, h, _⟩ := faultE_ok hf
  unfold colsN
  split
  · omega
  · exact h 0 (by omega)

theorem methE_times (n : Nat) (x : Int) (w : World) : (method (n + 1) 34 (.int .u8 x) "Times").run Try.prog w = .ok (133, .int .u8 x) w := by kernel_rfl
theorem methE_plus (n : Nat) (x : Int) (w : World) : (method (n + 1) 34 (.int .u8 x) "Plus").run Try.prog w = .ok (132, .int .u8 x) w := by kernel_rfl
set_option maxRecDepth 20000 in
set_option maxHeartbeats 2000000 in
theorem timE (A Bm : Option Addr) (n m cA cB : Nat) (La Lb : Nat → Nat) (ga gb : Nat → Nat → Nat) (w : World) (hfa : faultE n La = 0) (hfb : faultE m Lb = 0) (hcm : colsN n La = m) (hA : ME w A n La ga) (hB : ME w Bm m Lb gb)
    (hga : ∀ i j, ga i j < 256) (hgb : ∀ i j, gb i j < 256) :
    Calls Try.prog 44 #[.slice A n cA, .slice Bm m cB] w fun e w' => ∃ b S, e = .returned (.tuple #[.slice (some ⟨b, 0, none⟩) n n, .int .i64 0]) ∧
      Mx w' w.heap.size b 62 34 n S (colsN m Lb) (colsN m Lb) (fun i j => .int .u8 (dot 256 (ga i) (fun u => gb u j) m)) ∧ Below w.heap.size w w' := by
  obtain ⟨hn, hla, -⟩ := faultE_ok hfa
  obtain ⟨hm, hlb, -⟩ := faultE_ok hfb
  have CA := Lib.hid (faultE_any A n cA La w (by omega) (fun i hi => by have := hla i hi; omega) hA.top)
  have CB := Lib.hid (faultE_any Bm m cB Lb w (by omega) (fun i hi => by have := hlb i hi; omega) hB.top)
  have CC := Lib.hid (columnsE_any A n cA La w hA.top)
  have CD := Lib.hid (columnsE_any Bm m cB Lb w hB.top)
  have hCle := colsN_le hfb
  obtain ⟨SA, KA, hA1, hA2⟩ := RdM.len hA (fun i hi => (colsN_len hfa i hi).trans hcm)
  obtain ⟨SB, KB, hB1, hB2⟩ := RdM.len hB (fun i hi => colsN_len hfb i hi)
  have HGA := Lib.hid hga; have HGB := Lib.hid hgb
  rw [hfa] at CA; rw [hfb] at CB; rw [hcm] at CC
  clear hfa hfb hcm hA hB hla hlb hga hgb
  generalize colsN m Lb = C at *
  go_enter Try.func44, Try.ntmps44
  go_wp2_with fail
  refine CA.out.mono ?_
  rintro e w1 ⟨rfl, rfl⟩
  go_wp2_with fail
  refine CB.out.mono ?_
  rintro e w1 ⟨rfl, rfl⟩
  go_wp2_with fail
  refine CC.out.mono ?_
  rintro e w1 ⟨rfl, rfl⟩
  go_wp2_with fail
  refine CD.out.mono ?_
  rintro e w1 ⟨rfl, rfl⟩
  clear CA CB CC CD
  go_wp2_with (go_at_call 79; (with_reducible refine (zerosE n C _ (by omega) (by omega)).mono ?_); rintro e w1 ⟨rfl, hM, hbel⟩)
  go_loopg [9, 10, 11, 12, 13, 14, 37] n (fun gk _ _ _ _ _ _ i wr => ∃ k : Nat, k ≤ n ∧ gk = n - k ∧ i = .int .i64 k ∧ Below w.heap.size w wr ∧
    Mx wr w.heap.size w.heap.size 62 34 n (fun i => w.heap.size + 1 + i) C C (fun i j => .int .u8 (dcell 256 ga gb m k 0 0 i j)))
  case atStart => exact ⟨0, Nat.zero_le _, rfl, rfl, hbel, hM.congr (by intro i j _ _; simp [dcell, dot])⟩
  case round =>
    clear hM hbel
    obtain ⟨k, hk, rfl, rfl, hbel, hM⟩ := hrel
    by_cases hlt : k < n
    · obtain ⟨b, o, rfl, hb, hc⟩ := hA1 k hlt
      have hrowA : wr.cell? ⟨b, o + k, none⟩ = some (.slice (SA k) m (KA k)) := (hbel.cell hb).trans hc
      have hrA := hA2 k hlt
      clear hc hA2
      have HA1 := Lib.hid hA1; clear hA1
      generalize SA k = Ak at *
      go_wp2
      go_loopg [11, 12, 13, 14, 44] m (fun gk _ _ _ _ i w2 => ∃ t : Nat, t ≤ m ∧ gk = m - t ∧ i = .int .i64 t ∧ Below w.heap.size w w2 ∧
        Mx w2 w.heap.size w.heap.size 62 34 n (fun i => w.heap.size + 1 + i) C C (fun i j => .int .u8 (dcell 256 ga gb m k t 0 i j)))
      case atStart => exact ⟨0, Nat.zero_le _, rfl, rfl, hbel, hM⟩
      case round =>
        clear hM hbel hrowA
        obtain ⟨t, ht, rfl, rfl, hbel, hM⟩ := hrel
        by_cases hlt2 : t < m
        · obtain ⟨b1, o1, rfl, hb1, hc1⟩ := hrA t hlt2
          have hx : wr.cell? ⟨b1, o1 + t, none⟩ = some (.int .u8 (ga k t)) := (hbel.cell hb1).trans hc1
          clear hc1
          by_cases hz : ga k t = 0
          · have t1 : ((ga k t : Int) == 0) = true := by simp [hz]
            have HZ := Lib.hid hz; clear hz
            go_wp2_with (go_at_call 131; (with_reducible refine (zeroE_any _ _).mono ?_); rintro e w4 ⟨rfl, rfl⟩)
            go_roundg (m - (t + 1))
            case measure => omega
            case rel => exact ⟨t + 1, by omega, rfl, by go_num, hbel, hM.congr fun i j _ _ => by rw [dcell_skip HZ.out]⟩
          · have t1 : ((ga k t : Int) == 0) = false := by rw [beq_eq_false_iff_ne]; omega
            clear hz
            obtain ⟨b2, o2, rfl, hb2, hc2⟩ := hB1 t hlt2
            have hrowB : wr.cell? ⟨b2, o2 + t, none⟩ = some (.slice (SB t) C (KB t)) := (hbel.cell hb2).trans hc2
            have hrB := hB2 t hlt2
            clear hc2 hB2
            have HB1 := Lib.hid hB1; clear hB1
            generalize SB t = Bt at *
            go_wp2_with (go_at_call 131; (with_reducible refine (zeroE_any _ _).mono ?_); rintro e w4 ⟨rfl, rfl⟩)
            go_loopg [13, 14, 57] C (fun gk _ _ i w3 => ∃ j : Nat, j ≤ C ∧ gk = C - j ∧ i = .int .i64 j ∧ Below w.heap.size w w3 ∧
              Mx w3 w.heap.size w.heap.size 62 34 n (fun i => w.heap.size + 1 + i) C C (fun i j' => .int .u8 (dcell 256 ga gb m k t j i j')))
            case atStart => exact ⟨0, Nat.zero_le _, rfl, rfl, hbel, hM⟩
            case round =>
              clear hM hbel hrowB hx
              obtain ⟨j, hj, rfl, rfl, hbel, hM⟩ := hrel
              by_cases hlj : j < C
              · obtain ⟨b3, o3, rfl, hb3, hc3⟩ := hrB j hlj
                have hy : wr.cell? ⟨b3, o3 + j, none⟩ = some (.int .u8 (gb t j)) := (hbel.cell hb3).trans hc3
                have htop := hM.top.cell hlt
                have hcel := (hM.row k hlt).cell hlj
                have hfz := (hM.row k hlt).frozen j
                clear hc3
                have hxl : ga k t < 256 := HGA.out k t
                have hyl : gb t j < 256 := HGB.out t j
                have hdl : dcell 256 ga gb m k t j k j < 256 := dcell_lt (e := 8) hlt2 fun u _ => mulR_lt256 (HGA.out k u)
                have HS := Lib.hid (hM.drew.set hlt j (.int .u8 ((dcell 256 ga gb m k t j k j ^^^ mulR 256 (ga k t) (gb t j) : Nat) : Int)))
                have HT := Lib.hid (mul256 (b := gb t j) hxl)
                have hbs := Lib.hid (hbel.drew.setCell (p := ⟨w.heap.size + 1 + k, j, none⟩) (by simp; omega) (.int .u8 ((dcell 256 ga gb m k t j k j ^^^ mulR 256 (ga k t) (gb t j) : Nat) : Int)))
                have HN : Hid (∀ i' j', (if i' = k ∧ j' = j then Value.int .u8 ((dcell 256 ga gb m k t j k j ^^^ mulR 256 (ga k t) (gb t j) : Nat) : Int) else .int .u8 (dcell 256 ga gb m k t j i' j')) = .int .u8 (dcell 256 ga gb m k t (j + 1) i' j')) := fun i' j' => by
                  rw [← dcell_next]; split <;> rfl
                rw [HT.out] at HS hbs HN
                clear HT
                go_wp2_with fail
                clear hM hbel
                generalize dcell 256 ga gb m k t j k j = D at *
                generalize hgx : ga k t = x at *
                generalize hgy : gb t j = y at *
                have HX := Lib.hid hgx; have HY := Lib.hid hgy; clear hgx hgy
                refine wp_region_still_tail 19 follows_mixed (by kernel_rfl) ?_
                simp only [List.take_succ_cons, List.take_zero, List.drop_succ_cons, List.drop_zero]
                repeat still_step
                have hm1 := fun x => methE_times 275 x
                refine wpStill_step (fun K hK => ?_)
                go_simp
                refine ⟨_, (timesE_any x y _ hxl hyl).mono (fun _ _ h => ⟨h.1, h.2.symm⟩), hK _ ?_⟩
                clear hK K hm1
                have hm2 := fun x => methE_plus 275 x
                refine wpStill_step (fun K hK => ?_)
                go_simp
                refine ⟨_, (plusE_any D (timesE x y) _ hdl (timesE_lt hxl)).mono (fun _ _ h => ⟨h.1, h.2.symm⟩), hK _ ?_⟩
                clear hK K hm2
                repeat still_step
                refine wpStill_nil ?_
                change wpList _ _ _ _ _ wr.drew
                go_wp2
                go_roundg (C - (j + 1))
                case measure => omega
                case rel => exact ⟨j + 1, by omega, rfl, by go_num, hbs.out, HS.out.congr fun i' j' _ _ => HN.out i' j'⟩
              · have : j = C := by omega
                subst this
                go_wp2
                go_roundg (m - (t + 1))
                case measure => omega
                case rel => exact ⟨t + 1, by omega, rfl, by go_num, hbel, hM.congr fun i j _ hj => by rw [dcell_col hj]⟩
        · have : t = m := by omega
          subst this
          go_wp2
          go_roundg (n - (k + 1))
          case measure => omega
          case rel => exact ⟨k + 1, by omega, rfl, by go_num, hbel, hM.congr fun i j _ hj => by rw [dcell_row]⟩
    · have : k = n := by omega
      subst this
      go_wp2
      go_ret2
      exact ⟨_, _, rfl, hM.congr (by intro i j hi _; simp [hi, dcell]), hbel⟩
end Go.Proofs.Ytpocjpodeahanaa
