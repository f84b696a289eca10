/- The document's Product: the walk. Conditions: right matrices, numbers below 256. -/
import Derived.Test.YtpocjpodeahanaaTim1
namespace Go.Proofs.Ytpocjpodeahanaa
open Go.RowKit

/-- Row i of the product while column j is under way, t of its terms in. -/
def rc (s : Nat) (a : Nat → Nat) (b : Nat → Nat → Nat) (m j t j' : Nat) : Nat := if j' < j then dot s a (fun u => b u j') m else if j' = j then dot s a (fun u => b u j') t else 0
theorem rc_next {s : Nat} {a : Nat → Nat} {b : Nat → Nat → Nat} {m j t j' : Nat} : (if j' = j then rc s a b m j t j ^^^ mulR s (a t) (b t j) else rc s a b m j t j') = rc s a b m j (t + 1) j' := by
  unfold rc
  by_cases h2 : j' = j
  · subst h2; simp [dot]
  · simp [h2]
theorem rc_col {s : Nat} {a : Nat → Nat} {b : Nat → Nat → Nat} {m j j' : Nat} : rc s a b m j m j' = rc s a b m (j + 1) 0 j' := by
  unfold rc
  by_cases h2 : j' = j
  · subst h2; simp
  · by_cases h3 : j' < j
    · simp [h3, show j' < j + 1 by omega]
    · by_cases h4 : j' = j + 1
      · subst h4; simp [dot]; omega
      · simp [h2, h3, h4, show ¬ j' < j + 1 by omega]

set_option maxRecDepth 20000 in
set_option maxHeartbeats 2000000 in
theorem rprod (s : Nat) (A Bm : Option Addr) (n m cA cB : Nat) (La Lb : Nat → Nat) (ga gb : Nat → Nat → Nat) (w : World) (hfa : faultE n La = 0) (hfb : faultE m Lb = 0) (hcm : colsN n La = m) (hA : MI w A n La ga) (hB : MI w Bm m Lb gb)
    (hga : ∀ i j, ga i j < 256) (hgb : ∀ i j, gb i j < 256) (hmu : ∀ i u j, mulR s (ga i u) (gb u j) < 2 ^ 8) :
    Calls Try.prog 43 #[.int .i64 s, .slice A n cA, .slice Bm m cB] w fun e w' => ∃ v S K, e = .returned (.tuple #[v, .int .i64 0]) ∧
      OwnQ w' w.heap.size 23 3 1 v n S K (fun _ => colsN m Lb) (fun i j => [.int .i64 (dot s (ga i) (fun u => gb u j) m)]) ∧ Below w.heap.size w w' := by
  obtain ⟨hn, hla, -⟩ := faultE_ok hfa
  obtain ⟨hm, hlb, -⟩ := faultE_ok hfb
  have CA := Lib.hid (fun w => rfault_any A n cA La w (by omega) (fun i hi => by have := hla i hi; omega))
  have CB := Lib.hid (fun w => rfault_any Bm m cB Lb w (by omega) (fun i hi => by have := hlb i hi; omega))
  have CC := Lib.hid (fun w => rcolumns_any A n cA La w)
  have CD := Lib.hid (fun w => rcolumns_any Bm m cB Lb w)
  have hCle := colsN_le hfb
  obtain ⟨SA, KA, hA1, hA2⟩ := RdM.len hA (fun i hi => (colsN_len hfa i hi).trans hcm)
  obtain ⟨SB, KB, hB1, hB2⟩ := RdM.len hB (fun i hi => colsN_len hfb i hi)
  have HGA := Lib.hid hga; have HGB := Lib.hid hgb; have HMU := Lib.hid hmu
  rw [hfa] at CA; rw [hfb] at CB; rw [hcm] at CC
  have HA := Lib.hid hA; have HB := Lib.hid hB
  clear hfa hfb hcm hA hB hla hlb hga hgb hmu
  generalize colsN m Lb = C at *
  go_enter Try.func43, Try.ntmps43
  go_wp2_with fail
  refine (CA.out w HA.out.top).mono ?_
  rintro e w1 ⟨rfl, hd1⟩
  have hb1 := hd1.below w.heap.size
  go_wp2_with fail
  refine (CB.out w1 (MI.below HB.out hb1).top).mono ?_
  rintro e w2 ⟨rfl, hd2⟩
  have hb2 := hd2.below' hb1
  go_wp2_with fail
  refine (CC.out w2 (MI.below HA.out hb2).top).mono ?_
  rintro e w3 ⟨rfl, rfl⟩
  clear CA CB CC hd1 hd2 hb1
  have HBW := Lib.hid hb2
  go_wp2
  go_loopg [9, 10, 11, 12, 13] n (fun gk v i _ _ _ wr => ∃ (k : Nat) (S : Nat → Option Addr) (K : Nat → Nat), k ≤ n ∧ gk = n - k ∧ i = .int .i64 k ∧
    OwnQ wr w.heap.size 23 3 1 v k S K (fun _ => C) (fun i j => [.int .i64 (dot s (ga i) (fun u => gb u j) m)]) ∧ Below w.heap.size w wr)
  case atStart => exact ⟨0, fun _ => none, fun _ => 0, Nat.zero_le _, rfl, rfl, OwnQ.nil _ _ _ _ _ _ _ _ _, hb2⟩
  case round =>
    clear hb2 HBW
    obtain ⟨k, S, K, hk, rfl, rfl, hown, hbel⟩ := hrel
    have hsz := hbel.size
    by_cases hlt : k < n
    · obtain ⟨b, o, rfl, hb, hc⟩ := hA1 k hlt
      have hrA := hA2 k hlt
      replace hc : w.cell? ⟨b, o + k, none⟩ = some (.slice (SA k) m (KA k)) := hc
      have HrA : Hid (wr.cell? ⟨b, o + k, none⟩ = some (.slice (SA k) m (KA k))) := (hbel.cell hb).trans hc
      clear hA2
      have HA1 := Lib.hid hA1; clear hA1
      generalize SA k = Ak at *
      have HAc := Lib.hid hc; clear hc
      go_wp2_with fail
      refine (CD.out wr (MI.below HB.out hbel).top).mono ?_
      rintro e w3 ⟨rfl, rfl⟩
      go_wp2_with fail
      refine (rzeros C _ (by omega)).mono ?_
      rintro e w4 ⟨v1, rfl, hrow, hbr⟩
      obtain ⟨A1, c1, rfl, _, _, _, _⟩ := hrow.rd
      clear CD HrA
      obtain ⟨W0, hW0⟩ : ∃ W0, W0 = wr := ⟨_, rfl⟩
      rw [← hW0] at hown hbel hsz hrow hbr
      clear hW0
      obtain ⟨B0, hB0⟩ : ∃ B0, B0 = W0.heap.size := ⟨_, rfl⟩
      rw [← hB0] at hsz hrow hbr
      have HB0 := Lib.hid hB0; clear hB0
      go_wp2
      go_loopg [12, 13] C (fun gk j _ w5 => ∃ j' : Nat, j' ≤ C ∧ gk = C - j' ∧ j = .int .i64 j' ∧ Own w5 B0 3 1 (.slice A1 C c1) C (fun q => [.int .i64 (rc s (ga k) gb m j' 0 q)]) ∧ Below B0 W0 w5)
      case atStart => exact ⟨0, Nat.zero_le _, rfl, rfl, hrow.congr (fun q _ => by simp [rc, dot]), hbr⟩
      case round =>
        clear hrow hbr
        obtain ⟨j, hj, rfl, rfl, hrow, hbr⟩ := hrel
        by_cases hlj : j < C
        · obtain ⟨g1, c2, e1, hg1, hg1', hcc, _⟩ := hrow.form (by omega)
          injection e1 with e1 _ e2
          subst e1 e2
          clear hcc
          go_wp2
          go_loopg [13] m (fun gk i w6 => ∃ t : Nat, t ≤ m ∧ gk = m - t ∧ i = .int .i64 t ∧ Own w6 B0 3 1 (.slice (some ⟨g1, 0, none⟩) C c1) C (fun q => [.int .i64 (rc s (ga k) gb m j t q)]) ∧ Below B0 W0 w6)
          case atStart => exact ⟨0, Nat.zero_le _, rfl, rfl, hrow, hbr⟩
          case round =>
            clear hrow hbr
            obtain ⟨t, ht, rfl, rfl, hrow, hbr⟩ := hrel
            by_cases hlt2 : t < m
            · have hbw := hbel.trans (hbr.mono hsz)
              obtain ⟨b1, o1, rfl, hb1, hc1⟩ := hrA t hlt2
              have hx : wr.cell? ⟨b1, o1 + t, none⟩ = some (.int .i64 (ga k t)) := (hbw.cell hb1).trans hc1
              obtain ⟨b2, o2, rfl, hb2, hc2⟩ := hB1 t hlt2
              have hrowB : wr.cell? ⟨b2, o2 + t, none⟩ = some (.slice (SB t) C (KB t)) := (hbw.cell hb2).trans hc2
              have hrB := hB2 t hlt2
              clear hc1 hc2 hB2
              have HB1 := Lib.hid hB1; clear hB1
              generalize SB t = Bt at *
              obtain ⟨b3, o3, rfl, hb3, hc3⟩ := hrB j hlj
              have hy : wr.cell? ⟨b3, o3 + j, none⟩ = some (.int .i64 (gb t j)) := (hbw.cell hb3).trans hc3
              have hrowA : wr.cell? ⟨b, o + k, none⟩ = some (.slice (some ⟨b1, o1, none⟩) m (KA k)) := (hbw.cell hb).trans HAc.out
              have hcel := hrow.cell1 hlj
              obtain ⟨_, _, e3, _, _, _, hfz⟩ := hrow.form (by omega)
              injection e3 with e3 _ e4
              injection e3 with e3
              injection e3 with e3 _ _
              subst e3 e4
              have hf := hfz j
              clear hfz hc3
              have hxl := HGA.out k t
              have hyl := HGB.out t j
              have hdl : rc s (ga k) gb m j t j < 2 ^ 8 := by unfold rc; rw [if_neg (by omega), if_pos rfl]; exact dot_lt t fun u _ => HMU.out k u j
              have hxor := Lib.hid (i64_xor_nat (rc s (ga k) gb m j t j) (mulR s (ga k t) (gb t j)) (by omega) (by have := HMU.out k t j; omega))
              have HN : Hid (∀ q, (if q = j then Value.int .i64 (bits .xor .i64 (rc s (ga k) gb m j t j : Nat) (mulR s (ga k t) (gb t j) : Nat)) else .int .i64 (rc s (ga k) gb m j t q)) = .int .i64 (rc s (ga k) gb m j (t + 1) q)) := fun q => by
                rw [hxor.out, ← rc_next]; split <;> rfl
              have HO := Lib.hid (fun u => (show Own wr.drew B0 3 1 (.slice (some ⟨g1, 0, none⟩) C c1) C (fun q => [.int .i64 (rc s (ga k) gb m j t q)]) from hrow).set1 hlj u)
              have HBL := Lib.hid (fun u => hbr.drew.setCell (p := ⟨g1, j, none⟩) hg1 u)
              clear hrow hbr hbw hxor
              go_wp2_with fail
              generalize rc s (ga k) gb m j t j = D at *
              generalize hgx : ga k t = x at *
              generalize hgy : gb t j = y at *
              have HX := Lib.hid hgx; have HY := Lib.hid hgy; clear hgx hgy
              as_aux_lemma =>
                refine wp_region_still_tail 24 follows_mixed (by kernel_rfl) ?_
                simp only [List.take_succ_cons, List.take_zero, List.drop_succ_cons, List.drop_zero]
                repeat still_step
                refine wpStill_step (fun K hK => ?_)
                go_simp
                refine ⟨_, (mul_any s x y _ hxl hyl).mono (fun _ _ h => ⟨h.1, h.2.symm⟩), hK _ ?_⟩
                clear hK K
                repeat still_step
                refine wpStill_nil ?_
                change wpList _ _ _ _ _ wr.drew
                go_wp2
                go_roundg (m - (t + 1))
                case measure => omega
                case rel => exact ⟨t + 1, by omega, rfl, by go_num, (HO.out _).congr (fun q _ => by rw [HN.out]), HBL.out _⟩
            · have : t = m := by omega
              subst this
              go_wp2
              go_roundg (C - (j + 1))
              case measure => omega
              case rel => exact ⟨j + 1, by omega, rfl, by go_num, hrow.congr (fun q _ => by rw [rc_col]), hbr⟩
        · have : j = C := by omega
          subst this
          have hownB := (hown.kept (by rw [← HB0.out]; exact hbr)).next A1 c1
          have hrow' : Own wr w.heap.size 3 1 (.slice (upd S k A1 k) j (upd K k c1 k)) j (fun q => [.int .i64 (dot s (ga k) (fun u => gb u q) m)]) := by
            rw [upd_at, upd_at]; exact (hrow.mono hsz).congr fun q hq => by simp [rc, hq]
          have hu : Hid ((#[Value.slice A1 j c1] : Array Value).toList = [.slice (upd S k A1 k) j (upd K k c1 k)]) := by rw [upd_at, upd_at]; rfl
          have hbel1 := hbel.trans (hbr.mono hsz)
          have hsz1 := hbel1.size
          clear hown hrow hbr hbel
          go_wp2_with (at_builtin; refine wpList_push _ rfl (.tmp 77) (.tmp 79) 22 rfl w.heap.size 23 1 24 (.slice none 0 0) #[.slice A1 j c1] Try.underlying22 intsInfo rfl (by decide) _ k _ rfl hownB.1 hsz1 _ rfl rfl hu.out rfl rfl (by omega) (by omega) ?_)
          intro v' w7 hown4 hbel4 hg4 _
          have hO := hownB.push (by decide) hrow' hown4 hg4
          have hbelF := hbel1.trans hbel4
          clear hownB hrow' hown4 hg4 hbel4 hbel1
          go_wp2
          go_roundg (n - (k + 1))
          case measure => omega
          case rel => exact ⟨k + 1, _, _, by omega, rfl, by go_num, hO, hbelF⟩
    · have : k = n := by omega
      subst this
      go_wp2
      go_ret2
      exact ⟨_, _, _, rfl, hown, hbel⟩
end Go.Proofs.Ytpocjpodeahanaa
