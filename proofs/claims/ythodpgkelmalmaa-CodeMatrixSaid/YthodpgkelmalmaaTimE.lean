/- Times, of matrix, over the field of 256 (seat 04): the walk. Conditions: right matrices. -/
import Derived.Test.YthodpgkelmalmaaRowsE
import Derived.StillTailTactics
namespace Go.Proofs.Ythodpgkelmalmaa
open Go.RowKit

/-- What lies at place i', j' when k rows are whole, of row k the first t terms are in and, up to column j, the next. -/
def dcG (A B : Nat → Nat → Fin 256) (m k t j i' j' : Nat) : Fin 256 :=
  if i' < k then gE.s m (fun u => gE.m (A i' u) (B u j')) else if i' = k then (if j' < j then gE.s (t + 1) (fun u => gE.m (A i' u) (B u j')) else gE.s t (fun u => gE.m (A i' u) (B u j'))) else gE.z
theorem dcG_next {A B : Nat → Nat → Fin 256} {m k t j i' j' : Nat} : (if i' = k ∧ j' = j then gE.a (dcG A B m k t j k j) (gE.m (A k t) (B t j)) else dcG A B m k t j i' j') = dcG A B m k t (j + 1) i' j' := by
  unfold dcG
  by_cases h1 : i' = k
  · subst h1
    by_cases h2 : j' = j
    · subst h2
      rw [if_pos ⟨rfl, rfl⟩]
      simp [Fd.s_succ]
    · rw [if_neg (fun h => h2 h.2)]
      by_cases h3 : j' < j
      · simp [h3, show j' < j + 1 by omega]
      · simp [h3, show ¬ j' < j + 1 by omega]
  · rw [if_neg (fun h => h1 h.1)]; simp [h1]
theorem dcG_col {A B : Nat → Nat → Fin 256} {m k t c i' j' : Nat} (h : j' < c) : dcG A B m k t c i' j' = dcG A B m k (t + 1) 0 i' j' := by
  unfold dcG; simp [h]
theorem dcG_skip {A B : Nat → Nat → Fin 256} {m k t i' j' : Nat} (h : A k t = gE.z) : dcG A B m k t 0 i' j' = dcG A B m k (t + 1) 0 i' j' := by
  unfold dcG
  by_cases h1 : i' = k
  · subst h1; simp [Fd.s_succ, h, gE.z_m, gE.a_z]
  · simp [h1]
theorem dcG_row {A B : Nat → Nat → Fin 256} {m k i' j' : Nat} : dcG A B m k m 0 i' j' = dcG A B m (k + 1) 0 0 i' j' := by
  unfold dcG
  by_cases h1 : i' = k
  · subst h1; simp
  · by_cases h2 : i' < k
    · simp [h2, show i' < k + 1 by omega]
    · by_cases h3 : i' = k + 1
      · subst h3; simp [Fd.s]; exact fun h => absurd h (by omega)
      · simp [h1, h2, h3, show ¬ i' < k + 1 by omega]
set_option maxRecDepth 20000 in
set_option maxHeartbeats 2000000 in
theorem timE (A Bm : Option Addr) (n m cA cB : Nat) (La Lb : Nat → Nat) (Ga Gb : Nat → Nat → Fin 256) (w : World) (hfa : faultE n La = 0) (hfb : faultE m Lb = 0) (hcm : colsN n La = m) (hA : ME w A n La (fun i j => (Ga i j).val)) (hB : ME w Bm m Lb (fun i j => (Gb i j).val)) :
    Calls Try.prog 42 #[.slice A n cA, .slice Bm m cB] w fun e w' => ∃ b S, e = .returned (.tuple #[.slice (some ⟨b, 0, none⟩) n n, .int .i64 0]) ∧
      Mx w' w.heap.size b 78 57 n S (colsN m Lb) (colsN m Lb) (fun i j => .int .u8 ((gE.s m (fun u => gE.m (Ga i u) (Gb u j))).val)) ∧ Below w.heap.size w w' := by
  obtain ⟨hn, hla, -⟩ := faultE_ok hfa
  obtain ⟨hm, hlb, -⟩ := faultE_ok hfb
  have CA := Lib.hid (faultE_any A n cA La w (by omega) (fun i hi => by have := hla i hi; omega) hA.top)
  have CB := Lib.hid (faultE_any Bm m cB Lb w (by omega) (fun i hi => by have := hlb i hi; omega) hB.top)
  have CC := Lib.hid (columnsE_any A n cA La w hA.top)
  have CD := Lib.hid (columnsE_any Bm m cB Lb w hB.top)
  have hCle := colsN_le hfb
  obtain ⟨SA, KA, hA1, hA2⟩ := RdM.len hA (fun i hi => (colsN_len hfa i hi).trans hcm)
  obtain ⟨SB, KB, hB1, hB2⟩ := RdM.len hB (fun i hi => colsN_len hfb i hi)
  rw [hfa] at CA; rw [hfb] at CB; rw [hcm] at CC
  clear hfa hfb hcm hA hB hla hlb
  generalize colsN m Lb = C at *
  go_enter Try.func42, Try.ntmps42
  go_wp2_with fail
  refine CA.out.mono ?_
  rintro e w1 ⟨rfl, rfl⟩
  go_wp2_with fail
  refine CB.out.mono ?_
  rintro e w1 ⟨rfl, rfl⟩
  go_wp2_with fail
  refine CC.out.mono ?_
  rintro e w1 ⟨rfl, rfl⟩
  go_wp2_with fail
  refine CD.out.mono ?_
  rintro e w1 ⟨rfl, rfl⟩
  clear CA CB CC CD
  go_wp2_with (go_at_call 67; (with_reducible refine (zerosE n C _ (by omega) (by omega)).mono ?_); rintro e w1 ⟨rfl, hM, hbel⟩)
  go_loopg [9, 10, 11, 12, 13, 14, 37] n (fun gk _ _ _ _ _ _ i wr => ∃ k : Nat, k ≤ n ∧ gk = n - k ∧ i = .int .i64 k ∧ Below w.heap.size w wr ∧
    Mx wr w.heap.size w.heap.size 78 57 n (fun i => w.heap.size + 1 + i) C C (fun i j => .int .u8 ((dcG Ga Gb m k 0 0 i j).val : Nat)))
  case atStart => exact ⟨0, Nat.zero_le _, rfl, rfl, hbel, hM.congr (by intro i j _ _; simp [dcG, Fd.s]; rfl)⟩
  case round =>
    clear hM hbel
    obtain ⟨k, hk, rfl, rfl, hbel, hM⟩ := hrel
    by_cases hlt : k < n
    · obtain ⟨b, o, rfl, hb, hc⟩ := hA1 k hlt
      have hrowA : wr.cell? ⟨b, o + k, none⟩ = some (.slice (SA k) m (KA k)) := (hbel.cell hb).trans hc
      have hrA := hA2 k hlt
      clear hc hA2
      have HA1 := Lib.hid hA1; clear hA1
      generalize SA k = Ak at *
      go_wp2
      go_loopg [11, 12, 13, 14, 44] m (fun gk _ _ _ _ i w2 => ∃ t : Nat, t ≤ m ∧ gk = m - t ∧ i = .int .i64 t ∧ Below w.heap.size w w2 ∧
        Mx w2 w.heap.size w.heap.size 78 57 n (fun i => w.heap.size + 1 + i) C C (fun i j => .int .u8 ((dcG Ga Gb m k t 0 i j).val : Nat)))
      case atStart => exact ⟨0, Nat.zero_le _, rfl, rfl, hbel, hM⟩
      case round =>
        clear hM hbel hrowA
        obtain ⟨t, ht, rfl, rfl, hbel, hM⟩ := hrel
        by_cases hlt2 : t < m
        · obtain ⟨b1, o1, rfl, hb1, hc1⟩ := hrA t hlt2
          have hx : wr.cell? ⟨b1, o1 + t, none⟩ = some (.int .u8 ((Ga k t).val : Nat)) := (hbel.cell hb1).trans hc1
          clear hc1
          by_cases hz : Ga k t = gE.z
          · have t1 : (((Ga k t).val : Int) == 0) = true := zG_true hz
            have HZ := Lib.hid hz; clear hz
            go_wp2_with (go_at_call 98; (with_reducible refine (zG_any _ _).mono ?_); rintro e w4 ⟨rfl, rfl⟩)
            go_roundg (m - (t + 1))
            case measure => omega
            case rel => exact ⟨t + 1, by omega, rfl, by go_num, hbel, hM.congr fun i j _ _ => by rw [dcG_skip HZ.out]⟩
          · have t1 : (((Ga k t).val : Int) == 0) = false := zG_false hz
            clear hz
            obtain ⟨b2, o2, rfl, hb2, hc2⟩ := hB1 t hlt2
            have hrowB : wr.cell? ⟨b2, o2 + t, none⟩ = some (.slice (SB t) C (KB t)) := (hbel.cell hb2).trans hc2
            have hrB := hB2 t hlt2
            clear hc2 hB2
            have HB1 := Lib.hid hB1; clear hB1
            generalize SB t = Bt at *
            go_wp2_with (go_at_call 98; (with_reducible refine (zG_any _ _).mono ?_); rintro e w4 ⟨rfl, rfl⟩)
            go_loopg [13, 14, 57] C (fun gk _ _ i w3 => ∃ j : Nat, j ≤ C ∧ gk = C - j ∧ i = .int .i64 j ∧ Below w.heap.size w w3 ∧
              Mx w3 w.heap.size w.heap.size 78 57 n (fun i => w.heap.size + 1 + i) C C (fun i j' => .int .u8 ((dcG Ga Gb m k t j i j').val : Nat)))
            case atStart => exact ⟨0, Nat.zero_le _, rfl, rfl, hbel, hM⟩
            case round =>
              clear hM hbel hrowB hx
              obtain ⟨j, hj, rfl, rfl, hbel, hM⟩ := hrel
              by_cases hlj : j < C
              · obtain ⟨b3, o3, rfl, hb3, hc3⟩ := hrB j hlj
                have hy : wr.cell? ⟨b3, o3 + j, none⟩ = some (.int .u8 ((Gb t j).val : Nat)) := (hbel.cell hb3).trans hc3
                have htop := hM.top.cell hlt
                have hcel := (hM.row k hlt).cell hlj
                have hfz := (hM.row k hlt).frozen j
                clear hc3
                have HS := Lib.hid (hM.drew.set hlt j (.int .u8 ((gE.a (dcG Ga Gb m k t j k j) (gE.m (Ga k t) (Gb t j))).val : Nat)))
                have hbs := Lib.hid (hbel.drew.setCell (p := ⟨w.heap.size + 1 + k, j, none⟩) (by simp; omega) (.int .u8 ((gE.a (dcG Ga Gb m k t j k j) (gE.m (Ga k t) (Gb t j))).val : Nat)))
                have HN : Hid (∀ i' j', (if i' = k ∧ j' = j then Value.int .u8 ((gE.a (dcG Ga Gb m k t j k j) (gE.m (Ga k t) (Gb t j))).val : Nat) else .int .u8 ((dcG Ga Gb m k t j i' j').val : Nat)) = .int .u8 ((dcG Ga Gb m k t (j + 1) i' j').val : Nat)) := fun i' j' => by
                  rw [← dcG_next]; split <;> rfl
                go_wp2_with fail
                clear hM hbel
                generalize dcG Ga Gb m k t j k j = D at *
                generalize Ga k t = x at *
                generalize Gb t j = y at *
                refine wp_region_still_tail 19 mixed (by kernel_rfl) ?_
                simp only [List.take_succ_cons, List.take_zero, List.drop_succ_cons, List.drop_zero]
                repeat still_step
                have hm1 := mE_times
                refine wpStill_step (fun K hK => ?_)
                go_simp
                refine ⟨_, (tG_any x y _).mono (fun _ _ h => ⟨h.1, h.2.symm⟩), hK _ ?_⟩
                clear hK K hm1
                have hm2 := mE_plus
                refine wpStill_step (fun K hK => ?_)
                go_simp
                refine ⟨_, (pG_any D (gE.m x y) _).mono (fun _ _ h => ⟨h.1, h.2.symm⟩), hK _ ?_⟩
                clear hK K hm2
                repeat still_step
                refine wpStill_nil ?_
                change wpList _ _ _ _ _ wr.drew
                go_wp2
                go_roundg (C - (j + 1))
                case measure => omega
                case rel => exact ⟨j + 1, by omega, rfl, by go_num, hbs.out, HS.out.congr fun i' j' _ _ => HN.out i' j'⟩
              · have : j = C := by omega
                subst this
                go_wp2
                go_roundg (m - (t + 1))
                case measure => omega
                case rel => exact ⟨t + 1, by omega, rfl, by go_num, hbel, hM.congr fun i j _ hj => by rw [dcG_col hj]⟩
        · have : t = m := by omega
          subst this
          go_wp2
          go_roundg (n - (k + 1))
          case measure => omega
          case rel => exact ⟨k + 1, by omega, rfl, by go_num, hbel, hM.congr fun i j _ hj => by rw [dcG_row]⟩
    · have : k = n := by omega
      subst this
      go_wp2
      go_ret2
      exact ⟨_, _, rfl, hM.congr (by intro i j hi _; simp [hi, dcG]), hbel⟩
end Go.Proofs.Ythodpgkelmalmaa
