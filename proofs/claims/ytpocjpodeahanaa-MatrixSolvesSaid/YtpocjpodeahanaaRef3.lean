/- The document's Rank: the walk. Conditions: lengths that memory bears. -/
import Derived.Test.YtpocjpodeahanaaRef2
import Derived.Test.YtpocjpodeahanaaTim1
namespace Go.Proofs.Ytpocjpodeahanaa
open Go.RowKit

set_option maxRecDepth 40000 in
set_option maxHeartbeats 2000000 in
theorem rrank_ok {s : Nat} {F : Fd (Fin s)} (ok : FdOk s F) (A : Option Addr) (n c : Nat) (L : Nat → Nat) (G : Nat → Nat → Fin s) (w : World) (hf : faultE n L = 0) (hA : MI w A n L (fun i j => (G i j).val)) :
    Calls Try.prog 47 #[.int .i64 (s : Nat), .slice A n c] w fun e w' => ∃ (r : Nat) (R : Nat → Nat → Fin s) (p : Nat → Nat), e = .returned (.tuple #[.int .i64 (r : Nat), .int .i64 0]) ∧ Below w.heap.size w w' ∧ F.BS n r (colsN n L) (colsN n L) G R p := by
  obtain ⟨hn, hl, -⟩ := faultE_ok hf
  have CA := Lib.hid (rfault_any A n c L w (by omega) (fun i hi => by have := hl i hi; omega) hA.top)
  have hC := colsN_le hf
  have HWITH := Lib.hid (fun (RA PA A : Option Addr) (r rc pc n W c : Nat) (R : Nat → Nat → Fin s) (p : Nat → Nat) (x : Nat → Fin s) (w : World) => with_any ok RA PA A r rc pc n W c R p x w)
  obtain ⟨SA, KA, hA1, hA2⟩ := RdM.len hA (fun i hi => colsN_len hf i hi)
  rw [hf] at CA
  have HA1 := Lib.hid hA1; have HA2 := Lib.hid hA2
  clear hf hA hl ok hA1 hA2
  generalize colsN n L = C at *
  go_enter Try.func47, Try.ntmps47
  go_wp2_with fail
  refine CA.out.mono ?_
  rintro e w1 ⟨rfl, hd1⟩
  have hb1 := hd1.below w.heap.size
  clear CA hd1
  have hQ : (w1.alloc (.cells #[.slice none 0 0, .slice none 0 0] 126)).rowIs w1.heap.size 126 2 (fun t => if t = 0 then Value.slice none 0 0 else Value.slice none 0 0) :=
    World.rowIs_alloc w1 #[.slice none 0 0, .slice none 0 0] 126 _ (by intro i hi; match i, hi with | 0, _ => rfl | 1, _ => rfl)
  have HQ0 := Lib.hid hQ
  have HB1 := Lib.hid hb1
  have HBC := Lib.hid ((Below.refl w1.heap.size w1).alloc (Nat.le_refl _) (.cells #[.slice none 0 0, .slice none 0 0] 126))
  clear hQ hb1
  go_wp2
  generalize w1.alloc (.cells #[.slice none 0 0, .slice none 0 0] 126) = wc at *
  generalize hBb : w1.heap.size = Bb at *
  have HBb := Lib.hid hBb; clear hBb
  go_loopg [8] n (fun g i w3 => ∃ (k r rc pc : Nat) (RA PA : Option Addr) (R : Nat → Nat → Fin s) (p : Nat → Nat), k ≤ n ∧ r ≤ k ∧ g = n - k ∧ i = .int .i64 k ∧ w3.rowIs Bb 126 2 (fun t => if t = 0 then .slice RA r rc else .slice PA r pc) ∧
    RdMF w3 (Bb + 1) RA r C (fun i j => .int .i64 ((R i j).val : Nat)) ∧ Fr (Bb + 1) PA ∧ Rd w3 PA r (fun i => .int .i64 (p i : Nat)) ∧ F.BS k r C C G R p ∧ Below Bb w1 w3)
  case atStart => exact ⟨0, 0, 0, 0, none, none, fun _ _ => F.z, fun _ => 0, Nat.zero_le _, Nat.le_refl _, rfl, rfl, HQ0.out, ⟨(fun b o e => by cases e), fun _ => none, fun _ => 0, Rd.zero _ _ _, fun i hi => absurd hi (by omega)⟩, (fun b o e => by cases e), Rd.zero _ _ _, Fd.BS.start _ _ _ _ _, HBC.out⟩
  case round =>
    obtain ⟨k, r, rc, pc, RA, PA, R, p, hk, hrk, rfl, rfl, hq, hR, hFP, hP, hBS, hbel⟩ := hrel
    have hq0 : wr.cell? ⟨Bb, 0, none⟩ = some (.slice RA r rc) := hq.cell (show 0 < 2 by omega)
    have hq1 : wr.cell? ⟨Bb, 1, none⟩ = some (.slice PA r pc) := hq.cell (show 1 < 2 by omega)
    have hBl : Bb < wr.heap.size := hq.lt
    by_cases hlt : k < n
    · have hbw : Below w.heap.size w wr := HB1.out.trans (hbel.mono (by have h1 := HB1.out.size; have h2 := HBb.out; omega))
      have hwB : w.heap.size ≤ Bb := by have h1 := HB1.out.size; have h2 := HBb.out; omega
      obtain ⟨b1, o1, rfl, hb1, hx1⟩ := HA1.out k hlt
      have hy1 : wr.cell? ⟨b1, o1 + k, none⟩ = some (.slice (SA k) C (KA k)) := (hbw.cell hb1).trans hx1
      have hrow : Rd wr (SA k) C (fun j => .int .i64 ((G k j).val : Nat)) := (HA2.out k hlt).below hbw
      have HW := Lib.hid (HWITH.out RA PA (SA k) r rc pc C C (KA k) R p (G k) wr.drew (by omega) (by omega) (Nat.le_refl _) (fun i hi => (hBS.piv i hi).1) hR.rdm hP hrow)
      have KS : Hid (∀ w4, Below wr.heap.size wr w4 → w4.cell? ⟨Bb, 0, none⟩ = some (.slice RA r rc) ∧ w4.cell? ⟨Bb, 1, none⟩ = some (.slice PA r pc) ∧ w4.cell? ⟨b1, o1 + k, none⟩ = some (.slice (SA k) C (KA k))) := fun w4 hb4 => ⟨(hb4.cell hBl).trans hq0, (hb4.cell hBl).trans hq1, (hb4.cell (by show b1 < _; omega)).trans hy1⟩
      have HQ := Lib.hid hq; have HR := Lib.hid hR; have HFP := Lib.hid hFP; have HP := Lib.hid hP; have HBS := Lib.hid hBS; have HBE := Lib.hid hbel
      clear hx1 hrow hq hR hFP hP hBS hbel hbw
      go_wp2_with fail
      clear hq0 hq1 hy1
      as_aux_lemma =>
        refine wp_region_mix [(true, true, true), (true, true, false), (true, true, false), (true, true, false), (true, true, false), (true, true, true), (true, true, false), (true, true, false), (true, true, false), (true, true, false), (true, true, true), (false, false, false), (false, false, false), (false, true, false), (false, true, false), (false, false, true)] mixedR (by kernel_rfl) (fun w4 => w4.cell? ⟨Bb, 0, none⟩ = some (.slice RA r rc) ∧ w4.cell? ⟨Bb, 1, none⟩ = some (.slice PA r pc) ∧ w4.cell? ⟨b1, o1 + k, none⟩ = some (.slice (SA k) C (KA k))) (KS.out _ (Below.refl _ _).drew) ?_
        intro hSw0
        simp only [hdM, tlM, List.cons_append, List.nil_append]
        repeat (first
          | (refine mix_look hSw0.out ?_ (by rfl) (fun w4 hSw => ?_) ?_; rotate_left; (focus (obtain ⟨s1, s2, s3⟩ := hSw; go_simp; try with_reducible rfl)); simp only [Act.put, List.setIfInBounds_toArray, List.set_cons_zero, List.set_cons_succ])
          | (refine mix_pure ?_ (by rfl) (fun w4 => ?_) ?_; rotate_left; (focus (go_simp; try with_reducible rfl)); simp only [Act.put, List.setIfInBounds_toArray, List.set_cons_zero, List.set_cons_succ]))
        refine mix_step (fun K hK => ?_)
        go_simp
        refine HW.out.mono ?_
        rintro e w5 ⟨hb5, hpost⟩
        have hB5 : Below wr.heap.size wr w5 := (Below.refl _ _).drew.trans hb5
        have hq5 := below_row HQ.out hB5 HQ.out.lt
        have hc0 : w5.cell? ⟨Bb, 0, none⟩ = some (.slice RA r rc) := hq5.cell (show 0 < 2 by omega)
        have hc1 : w5.cell? ⟨Bb, 1, none⟩ = some (.slice PA r pc) := hq5.cell (show 1 < 2 by omega)
        have hf0 := hq5.frozen 0
        have hf1 := hq5.frozen 1
        rcases hpost with ⟨rfl, hz⟩ | ⟨q, RA', PA', rc', pc', hqC, hne, rfl, hR', hF', hP'⟩
        · have HY := Lib.hid hz; clear hz
          dsimp only
          refine hK.out _ _ (fun _ _ => KS.out _ hB5) ?_
          clear hK K
          try simp only [Act.put, List.setIfInBounds_toArray, List.set_cons_zero, List.set_cons_succ]
          refine mix_step (fun K hK => ?_)
          go_simp
          refine hK.out _ _ (fun _ h => h) ?_
          clear hK K
          try simp only [Act.put, List.setIfInBounds_toArray, List.set_cons_zero, List.set_cons_succ]
          repeat (refine mix_pure ?_ (by rfl) (fun w4 => ?_) ?_; rotate_left; (focus (go_simp; try with_reducible rfl)); simp only [Act.put, List.setIfInBounds_toArray, List.set_cons_zero, List.set_cons_succ])
          refine mix_step (fun K hK => ?_)
          go_simp
          refine hK.out _ _ (fun h => absurd h (by decide)) ?_
          clear hK K
          try simp only [Act.put, List.setIfInBounds_toArray, List.set_cons_zero, List.set_cons_succ]
          refine mix_nil ?_
          have hQ8 : ((w5.setCell ⟨Bb, 0, none⟩ (.slice RA r rc)).setCell ⟨Bb, 1, none⟩ (.slice PA r pc)).rowIs Bb 126 2 (fun t => if t = 0 then .slice RA r rc else .slice PA r pc) := ((hq5.set 0 _).set 1 _).congr fun t ht => by
            by_cases e : t = 0
            · subst e; simp
            · have : t = 1 := by omega
              subst this; simp
          have hb8 : Below Bb w1 ((w5.setCell ⟨Bb, 0, none⟩ (.slice RA r rc)).setCell ⟨Bb, 1, none⟩ (.slice PA r pc)) := ((HBE.out.trans (hB5.mono (Nat.le_of_lt hBl))).setCell (Nat.le_refl _) _).setCell (Nat.le_refl _) _
          have hR8 := ((HR.out.below hB5).setOther (a := ⟨Bb, 0, none⟩) (Nat.lt_succ_self _) (.slice RA r rc)).setOther (a := ⟨Bb, 1, none⟩) (Nat.lt_succ_self _) (.slice PA r pc)
          have hP8 := ((HP.out.below hB5).setOther (a := ⟨Bb, 0, none⟩) (fun b o e => by have := HFP.out b o e; show b ≠ Bb; omega) (.slice RA r rc)).setOther (a := ⟨Bb, 1, none⟩) (fun b o e => by have := HFP.out b o e; show b ≠ Bb; omega) (.slice PA r pc)
          have HREL : Hid (F.BS (k + 1) r C C G R p) := HBS.out.skip HY.out
          clear hc0 hc1 hf0 hf1 hq5
          go_wp2
          go_roundg (n - (k + 1))
          case measure => omega
          case rel => exact ⟨k + 1, r, rc, pc, RA, PA, _, _, by omega, by omega, rfl, by go_num, hQ8, hR8, HFP.out, hP8, HREL.out, hb8⟩
        · have HY := Lib.hid hne; clear hne
          have HR' := Lib.hid hR'; have HF' := Lib.hid hF'; have HP' := Lib.hid hP'; clear hR' hF' hP'
          dsimp only
          refine hK.out _ _ (fun _ _ => KS.out _ hB5) ?_
          clear hK K
          try simp only [Act.put, List.setIfInBounds_toArray, List.set_cons_zero, List.set_cons_succ]
          refine mix_step (fun K hK => ?_)
          go_simp
          refine hK.out _ _ (fun _ h => h) ?_
          clear hK K
          try simp only [Act.put, List.setIfInBounds_toArray, List.set_cons_zero, List.set_cons_succ]
          repeat (refine mix_pure ?_ (by rfl) (fun w4 => ?_) ?_; rotate_left; (focus (go_simp; try with_reducible rfl)); simp only [Act.put, List.setIfInBounds_toArray, List.set_cons_zero, List.set_cons_succ])
          refine mix_step (fun K hK => ?_)
          go_simp
          refine hK.out _ _ (fun h => absurd h (by decide)) ?_
          clear hK K
          try simp only [Act.put, List.setIfInBounds_toArray, List.set_cons_zero, List.set_cons_succ]
          refine mix_nil ?_
          have hQ8 : ((w5.setCell ⟨Bb, 0, none⟩ (.slice RA' (r + 1) rc')).setCell ⟨Bb, 1, none⟩ (.slice PA' (r + 1) pc')).rowIs Bb 126 2 (fun t => if t = 0 then .slice RA' (r + 1) rc' else .slice PA' (r + 1) pc') := ((hq5.set 0 _).set 1 _).congr fun t ht => by
            by_cases e : t = 0
            · subst e; simp
            · have : t = 1 := by omega
              subst this; simp
          have hb8 : Below Bb w1 ((w5.setCell ⟨Bb, 0, none⟩ (.slice RA' (r + 1) rc')).setCell ⟨Bb, 1, none⟩ (.slice PA' (r + 1) pc')) := ((HBE.out.trans (hB5.mono (Nat.le_of_lt hBl))).setCell (Nat.le_refl _) _).setCell (Nat.le_refl _) _
          have hd : wr.drew.heap.size = wr.heap.size := rfl
          have hR8 := (((HR'.out.mono (show Bb + 1 ≤ wr.drew.heap.size by omega)).setOther (a := ⟨Bb, 0, none⟩) (Nat.lt_succ_self _) (.slice RA' (r + 1) rc')).setOther (a := ⟨Bb, 1, none⟩) (Nat.lt_succ_self _) (.slice PA' (r + 1) pc'))
          have hP8 := (HP'.out.setOther (a := ⟨Bb, 0, none⟩) (fun b o e => by have := HF'.out b o e; show b ≠ Bb; omega) (.slice RA' (r + 1) rc')).setOther (a := ⟨Bb, 1, none⟩) (fun b o e => by have := HF'.out b o e; show b ≠ Bb; omega) (.slice PA' (r + 1) pc')
          have HREL := Lib.hid (HBS.out.next hqC HY.out)
          clear hc0 hc1 hf0 hf1 hq5
          go_wp2
          go_roundg (n - (k + 1))
          case measure => omega
          case rel => exact ⟨k + 1, (r + 1), rc', pc', RA', PA', _, _, by omega, by omega, rfl, by go_num, hQ8, hR8, fun b o e => by have := HF'.out b o e; omega, hP8, HREL.out, hb8⟩
    · have : k = n := by omega
      subst this
      have HBS := Lib.hid hBS; clear hBS
      have HBE := Lib.hid hbel; clear hbel
      go_wp2
      go_ret2
      exact ⟨r, R, p, rfl, HB1.out.trans (HBE.out.mono (by have h1 := HB1.out.size; have h2 := HBb.out; omega)), HBS.out⟩
set_option maxHeartbeats 400000 in
theorem rrank_any {s : Nat} {F : Fd (Fin s)} (ok : FdOk s F) (A : Option Addr) (n c : Nat) (L : Nat → Nat) (G : Nat → Nat → Fin s) (w : World) (hn : n ≤ 9223372036854775807) (hL : ∀ i, i < n → L i ≤ 9223372036854775807) (hA : MI w A n L (fun i j => (G i j).val)) :
    Calls Try.prog 47 #[.int .i64 (s : Nat), .slice A n c] w fun e w' => ∃ r : Nat, e = .returned (.tuple #[.int .i64 (r : Nat), .int .i64 (faultE n L)]) ∧ Below w.heap.size w w' ∧ (faultE n L ≠ 0 → r = 0) ∧ (faultE n L = 0 → ∃ R p, F.BS n r (colsN n L) (colsN n L) G R p) := by
  by_cases hf : faultE n L = 0
  · refine (rrank_ok ok A n c L G w hf hA).mono ?_
    rintro e w' ⟨r, R, p, he, hb, hBS⟩
    rw [hf]
    exact ⟨r, he, hb, fun h => absurd rfl h, fun _ => ⟨R, p, hBS⟩⟩
  · have CA := Lib.hid (rfault_any A n c L w hn hL hA.top)
    have HF := Lib.hid hf
    have t1 : (faultE n L != 0) = true := by simpa using hf
    clear hf hA hL ok
    generalize faultE n L = fe at *
    go_enter Try.func47, Try.ntmps47
    go_wp2_with fail
    refine CA.out.mono ?_
    rintro e w1 ⟨rfl, hd1⟩
    have hb := hd1.below w.heap.size
    clear CA hd1
    go_wp2
    go_ret2
    exact ⟨0, rfl, hb, fun _ => rfl, fun h => absurd h HF.out⟩
end Go.Proofs.Ytpocjpodeahanaa
