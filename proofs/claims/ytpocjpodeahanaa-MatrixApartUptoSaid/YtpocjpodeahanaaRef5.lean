/- The document's Rank: the walk. Conditions: lengths that memory bears. -/
import Derived.Test.YtpocjpodeahanaaRef2
import Derived.Test.YtpocjpodeahanaaTim1
import Derived.Test.YtpocjpodeahanaaInvP
import Derived.Test.YtpocjpodeahanaaInv
namespace Go.Proofs.Ytpocjpodeahanaa
open Go.RowKit

set_option maxRecDepth 40000 in
set_option maxHeartbeats 2000000 in
theorem rrank_ok {s : Nat} {F : Fd (Fin s)} (ok : FdOk s F) (A : Option Addr) (n c : Nat) (L : Nat → Nat) (G : Nat → Nat → Fin s) (w : World) (hf : faultE n L = 0) (hA : MI w A n L (fun i j => (G i j).val)) :
    Calls Try.prog 47 #[.int .i64 (s : Nat), .slice A n c] w fun e w' => ∃ (r : Nat) (R : Nat → Nat → Fin s) (p : Nat → Nat), e = .returned (.tuple #[.int .i64 (r : Nat), .int .i64 0]) ∧ Below w.heap.size w w' ∧ F.BS n r (colsN n L) (colsN n L) G R p := by
  obtain ⟨hn, hl, -⟩ := faultE_ok hf
  have CA := Lib.hid (rfault_any A n c L w (by omega) (fun i hi => by have := hl i hi; omega) hA.top)
  have hC := colsN_le hf
  have HWITH := Lib.hid (fun (RA PA A : Option Addr) (r rc pc n W c : Nat) (R : Nat → Nat → Fin s) (p : Nat → Nat) (x : Nat → Fin s) (w : World) => with_any ok RA PA A r rc pc n W c R p x w)
  obtain ⟨SA, KA, hA1, hA2⟩ := RdM.len hA (fun i hi => colsN_len hf i hi)
  rw [hf] at CA
  have HA1 := Lib.hid hA1; have HA2 := Lib.hid hA2
  clear hf hA hl ok hA1 hA2
  generalize colsN n L = C at *
  go_enter Try.func47, Try.ntmps47
  go_wp2_with fail
  refine CA.out.mono ?_
  rintro e w1 ⟨rfl, hd1⟩
  have hb1 := hd1.below w.heap.size
  clear CA hd1
  have hQ : (w1.alloc (.cells #[.slice none 0 0, .slice none 0 0] 126)).rowIs w1.heap.size 126 2 (fun t => if t = 0 then Value.slice none 0 0 else Value.slice none 0 0) :=
    World.rowIs_alloc w1 #[.slice none 0 0, .slice none 0 0] 126 _ (by intro i hi; match i, hi with | 0, _ => rfl | 1, _ => rfl)
  have HQ0 := Lib.hid hQ
  have HB1 := Lib.hid hb1
  have HBC := Lib.hid ((Below.refl w1.heap.size w1).alloc (Nat.le_refl _) (.cells #[.slice none 0 0, .slice none 0 0] 126))
  clear hQ hb1
  go_wp2
  generalize w1.alloc (.cells #[.slice none 0 0, .slice none 0 0] 126) = wc at *
  generalize hBb : w1.heap.size = Bb at *
  have HBb := Lib.hid hBb; clear hBb
  go_loopg [8] n (fun g i w3 => ∃ (k r rc pc : Nat) (RA PA : Option Addr) (R : Nat → Nat → Fin s) (p : Nat → Nat), k ≤ n ∧ r ≤ k ∧ g = n - k ∧ i = .int .i64 k ∧ w3.rowIs Bb 126 2 (fun t => if t = 0 then .slice RA r rc else .slice PA r pc) ∧
    RdMF w3 (Bb + 1) RA r C (fun i j => .int .i64 ((R i j).val : Nat)) ∧ Fr (Bb + 1) PA ∧ Rd w3 PA r (fun i => .int .i64 (p i : Nat)) ∧ F.BS k r C C G R p ∧ Below Bb w1 w3)
  case atStart => exact ⟨0, 0, 0, 0, none, none, fun _ _ => F.z, fun _ => 0, Nat.zero_le _, Nat.le_refl _, rfl, rfl, HQ0.out, ⟨(fun b o e => by cases e), fun _ => none, fun _ => 0, Rd.zero _ _ _, fun i hi => absurd hi (by omega)⟩, (fun b o e => by cases e), Rd.zero _ _ _, Fd.BS.start _ _ _ _ _, HBC.out⟩
  case round =>
    obtain ⟨k, r, rc, pc, RA, PA, R, p, hk, hrk, rfl, rfl, hq, hR, hFP, hP, hBS, hbel⟩ := hrel
    have hq0 : wr.cell? ⟨Bb, 0, none⟩ = some (.slice RA r rc) := hq.cell (show 0 < 2 by omega)
    have hq1 : wr.cell? ⟨Bb, 1, none⟩ = some (.slice PA r pc) := hq.cell (show 1 < 2 by omega)
    have hBl : Bb < wr.heap.size := hq.lt
    by_cases hlt : k < n
    · have hbw : Below w.heap.size w wr := HB1.out.trans (hbel.mono (by have h1 := HB1.out.size; have h2 := HBb.out; omega))
      have hwB : w.heap.size ≤ Bb := by have h1 := HB1.out.size; have h2 := HBb.out; omega
      obtain ⟨b1, o1, rfl, hb1, hx1⟩ := HA1.out k hlt
      have hy1 : wr.cell? ⟨b1, o1 + k, none⟩ = some (.slice (SA k) C (KA k)) := (hbw.cell hb1).trans hx1
      have hrow : Rd wr (SA k) C (fun j => .int .i64 ((G k j).val : Nat)) := (HA2.out k hlt).below hbw
      have HW := Lib.hid (HWITH.out RA PA (SA k) r rc pc C C (KA k) R p (G k) wr.drew (by omega) (by omega) (Nat.le_refl _) (fun i hi => (hBS.piv i hi).1) hR.rdm hP hrow)
      have KS : Hid (∀ w4, Below wr.heap.size wr w4 → w4.cell? ⟨Bb, 0, none⟩ = some (.slice RA r rc) ∧ w4.cell? ⟨Bb, 1, none⟩ = some (.slice PA r pc) ∧ w4.cell? ⟨b1, o1 + k, none⟩ = some (.slice (SA k) C (KA k))) := fun w4 hb4 => ⟨(hb4.cell hBl).trans hq0, (hb4.cell hBl).trans hq1, (hb4.cell (by show b1 < _; omega)).trans hy1⟩
      have HQ := Lib.hid hq; have HR := Lib.hid hR; have HFP := Lib.hid hFP; have HP := Lib.hid hP; have HBS := Lib.hid hBS; have HBE := Lib.hid hbel
      clear hx1 hrow hq hR hFP hP hBS hbel hbw
      go_wp2_with fail
      clear hq0 hq1 hy1
      as_aux_lemma =>
        refine wp_region_mix [(true, true, true), (true, true, false), (true, true, false), (true, true, false), (true, true, false), (true, true, true), (true, true, false), (true, true, false), (true, true, false), (true, true, false), (true, true, true), (false, false, false), (false, false, false), (false, true, false), (false, true, false), (false, false, true)] mixedR (by kernel_rfl) (fun w4 => w4.cell? ⟨Bb, 0, none⟩ = some (.slice RA r rc) ∧ w4.cell? ⟨Bb, 1, none⟩ = some (.slice PA r pc) ∧ w4.cell? ⟨b1, o1 + k, none⟩ = some (.slice (SA k) C (KA k))) (KS.out _ (Below.refl _ _).drew) ?_
        intro hSw0
        simp only [hdM, tlM, List.cons_append, List.nil_append]
        repeat (first
          | (refine mix_look hSw0.out ?_ (by rfl) (fun w4 hSw => ?_) ?_; rotate_left; (focus (obtain ⟨s1, s2, s3⟩ := hSw; go_simp; try with_reducible rfl)); simp only [Act.put, List.setIfInBounds_toArray, List.set_cons_zero, List.set_cons_succ])
          | (refine mix_pure ?_ (by rfl) (fun w4 => ?_) ?_; rotate_left; (focus (go_simp; try with_reducible rfl)); simp only [Act.put, List.setIfInBounds_toArray, List.set_cons_zero, List.set_cons_succ]))
        refine mix_step (fun K hK => ?_)
        go_simp
        refine HW.out.mono ?_
        rintro e w5 ⟨hb5, hpost⟩
        have hB5 : Below wr.heap.size wr w5 := (Below.refl _ _).drew.trans hb5
        have hq5 := below_row HQ.out hB5 HQ.out.lt
        have hc0 : w5.cell? ⟨Bb, 0, none⟩ = some (.slice RA r rc) := hq5.cell (show 0 < 2 by omega)
        have hc1 : w5.cell? ⟨Bb, 1, none⟩ = some (.slice PA r pc) := hq5.cell (show 1 < 2 by omega)
        have hf0 := hq5.frozen 0
        have hf1 := hq5.frozen 1
        rcases hpost with ⟨rfl, hz⟩ | ⟨q, RA', PA', rc', pc', hqC, hne, rfl, hR', hF', hP'⟩
        · have HY := Lib.hid hz; clear hz
          dsimp only
          refine hK.out _ _ (fun _ _ => KS.out _ hB5) ?_
          clear hK K
          try simp only [Act.put, List.setIfInBounds_toArray, List.set_cons_zero, List.set_cons_succ]
          refine mix_step (fun K hK => ?_)
          go_simp
          refine hK.out _ _ (fun _ h => h) ?_
          clear hK K
          try simp only [Act.put, List.setIfInBounds_toArray, List.set_cons_zero, List.set_cons_succ]
          repeat (refine mix_pure ?_ (by rfl) (fun w4 => ?_) ?_; rotate_left; (focus (go_simp; try with_reducible rfl)); simp only [Act.put, List.setIfInBounds_toArray, List.set_cons_zero, List.set_cons_succ])
          refine mix_step (fun K hK => ?_)
          go_simp
          refine hK.out _ _ (fun h => absurd h (by decide)) ?_
          clear hK K
          try simp only [Act.put, List.setIfInBounds_toArray, List.set_cons_zero, List.set_cons_succ]
          refine mix_nil ?_
          have hQ8 : ((w5.setCell ⟨Bb, 0, none⟩ (.slice RA r rc)).setCell ⟨Bb, 1, none⟩ (.slice PA r pc)).rowIs Bb 126 2 (fun t => if t = 0 then .slice RA r rc else .slice PA r pc) := ((hq5.set 0 _).set 1 _).congr fun t ht => by
            by_cases e : t = 0
            · subst e; simp
            · have : t = 1 := by omega
              subst this; simp
          have hb8 : Below Bb w1 ((w5.setCell ⟨Bb, 0, none⟩ (.slice RA r rc)).setCell ⟨Bb, 1, none⟩ (.slice PA r pc)) := ((HBE.out.trans (hB5.mono (Nat.le_of_lt hBl))).setCell (Nat.le_refl _) _).setCell (Nat.le_refl _) _
          have hR8 := ((HR.out.below hB5).setOther (a := ⟨Bb, 0, none⟩) (Nat.lt_succ_self _) (.slice RA r rc)).setOther (a := ⟨Bb, 1, none⟩) (Nat.lt_succ_self _) (.slice PA r pc)
          have hP8 := ((HP.out.below hB5).setOther (a := ⟨Bb, 0, none⟩) (fun b o e => by have := HFP.out b o e; show b ≠ Bb; omega) (.slice RA r rc)).setOther (a := ⟨Bb, 1, none⟩) (fun b o e => by have := HFP.out b o e; show b ≠ Bb; omega) (.slice PA r pc)
          have HREL : Hid (F.BS (k + 1) r C C G R p) := HBS.out.skip HY.out
          clear hc0 hc1 hf0 hf1 hq5
          go_wp2
          go_roundg (n - (k + 1))
          case measure => omega
          case rel => exact ⟨k + 1, r, rc, pc, RA, PA, _, _, by omega, by omega, rfl, by go_num, hQ8, hR8, HFP.out, hP8, HREL.out, hb8⟩
        · have HY := Lib.hid hne; clear hne
          have HR' := Lib.hid hR'; have HF' := Lib.hid hF'; have HP' := Lib.hid hP'; clear hR' hF' hP'
          dsimp only
          refine hK.out _ _ (fun _ _ => KS.out _ hB5) ?_
          clear hK K
          try simp only [Act.put, List.setIfInBounds_toArray, List.set_cons_zero, List.set_cons_succ]
          refine mix_step (fun K hK => ?_)
          go_simp
          refine hK.out _ _ (fun _ h => h) ?_
          clear hK K
          try simp only [Act.put, List.setIfInBounds_toArray, List.set_cons_zero, List.set_cons_succ]
          repeat (refine mix_pure ?_ (by rfl) (fun w4 => ?_) ?_; rotate_left; (focus (go_simp; try with_reducible rfl)); simp only [Act.put, List.setIfInBounds_toArray, List.set_cons_zero, List.set_cons_succ])
          refine mix_step (fun K hK => ?_)
          go_simp
          refine hK.out _ _ (fun h => absurd h (by decide)) ?_
          clear hK K
          try simp only [Act.put, List.setIfInBounds_toArray, List.set_cons_zero, List.set_cons_succ]
          refine mix_nil ?_
          have hQ8 : ((w5.setCell ⟨Bb, 0, none⟩ (.slice RA' (r + 1) rc')).setCell ⟨Bb, 1, none⟩ (.slice PA' (r + 1) pc')).rowIs Bb 126 2 (fun t => if t = 0 then .slice RA' (r + 1) rc' else .slice PA' (r + 1) pc') := ((hq5.set 0 _).set 1 _).congr fun t ht => by
            by_cases e : t = 0
            · subst e; simp
            · have : t = 1 := by omega
              subst this; simp
          have hb8 : Below Bb w1 ((w5.setCell ⟨Bb, 0, none⟩ (.slice RA' (r + 1) rc')).setCell ⟨Bb, 1, none⟩ (.slice PA' (r + 1) pc')) := ((HBE.out.trans (hB5.mono (Nat.le_of_lt hBl))).setCell (Nat.le_refl _) _).setCell (Nat.le_refl _) _
          have hd : wr.drew.heap.size = wr.heap.size := rfl
          have hR8 := (((HR'.out.mono (show Bb + 1 ≤ wr.drew.heap.size by omega)).setOther (a := ⟨Bb, 0, none⟩) (Nat.lt_succ_self _) (.slice RA' (r + 1) rc')).setOther (a := ⟨Bb, 1, none⟩) (Nat.lt_succ_self _) (.slice PA' (r + 1) pc'))
          have hP8 := (HP'.out.setOther (a := ⟨Bb, 0, none⟩) (fun b o e => by have := HF'.out b o e; show b ≠ Bb; omega) (.slice RA' (r + 1) rc')).setOther (a := ⟨Bb, 1, none⟩) (fun b o e => by have := HF'.out b o e; show b ≠ Bb; omega) (.slice PA' (r + 1) pc')
          have HREL := Lib.hid (HBS.out.next hqC HY.out)
          clear hc0 hc1 hf0 hf1 hq5
          go_wp2
          go_roundg (n - (k + 1))
          case measure => omega
          case rel => exact ⟨k + 1, (r + 1), rc', pc', RA', PA', _, _, by omega, by omega, rfl, by go_num, hQ8, hR8, fun b o e => by have := HF'.out b o e; omega, hP8, HREL.out, hb8⟩
    · have : k = n := by omega
      subst this
      have HBS := Lib.hid hBS; clear hBS
      have HBE := Lib.hid hbel; clear hbel
      go_wp2
      go_ret2
      exact ⟨r, R, p, rfl, HB1.out.trans (HBE.out.mono (by have h1 := HB1.out.size; have h2 := HBb.out; omega)), HBS.out⟩
set_option maxHeartbeats 400000 in
theorem rrank_any {s : Nat} {F : Fd (Fin s)} (ok : FdOk s F) (A : Option Addr) (n c : Nat) (L : Nat → Nat) (G : Nat → Nat → Fin s) (w : World) (hn : n ≤ 9223372036854775807) (hL : ∀ i, i < n → L i ≤ 9223372036854775807) (hA : MI w A n L (fun i j => (G i j).val)) :
    Calls Try.prog 47 #[.int .i64 (s : Nat), .slice A n c] w fun e w' => ∃ r : Nat, e = .returned (.tuple #[.int .i64 (r : Nat), .int .i64 (faultE n L)]) ∧ Below w.heap.size w w' ∧ (faultE n L ≠ 0 → r = 0) ∧ (faultE n L = 0 → ∃ R p, F.BS n r (colsN n L) (colsN n L) G R p) := by
  by_cases hf : faultE n L = 0
  · refine (rrank_ok ok A n c L G w hf hA).mono ?_
    rintro e w' ⟨r, R, p, he, hb, hBS⟩
    rw [hf]
    exact ⟨r, he, hb, fun h => absurd rfl h, fun _ => ⟨R, p, hBS⟩⟩
  · have CA := Lib.hid (rfault_any A n c L w hn hL hA.top)
    have HF := Lib.hid hf
    have t1 : (faultE n L != 0) = true := by simpa using hf
    clear hf hA hL ok
    generalize faultE n L = fe at *
    go_enter Try.func47, Try.ntmps47
    go_wp2_with fail
    refine CA.out.mono ?_
    rintro e w1 ⟨rfl, hd1⟩
    have hb := hd1.below w.heap.size
    clear CA hd1
    go_wp2
    go_ret2
    exact ⟨0, rfl, hb, fun _ => rfl, fun h => absurd h HF.out⟩
end Go.Proofs.Ytpocjpodeahanaa

/- The document's Inverse: the walk. Conditions: lengths that memory bears. -/
namespace Go.Proofs.Ytpocjpodeahanaa
open Go.RowKit

/-- What Inverse says, by the document's basis. -/
def InvR {α : Type} (F : Fd α) (n : Nat) (L : Nat → Nat) (G : Nat → Nat → α) (er : Int) (X : Nat → Nat → α) : Prop :=
  (faultE n L ≠ 0 ∧ er = faultE n L) ∨ (faultE n L = 0 ∧ colsN n L ≠ n ∧ er = 31) ∨ (faultE n L = 0 ∧ colsN n L = n ∧ ¬ F.Free n n G ∧ er = 32) ∨
  (faultE n L = 0 ∧ colsN n L = n ∧ er = 0 ∧ ∃ R q, F.BS n n (n + n) n (F.aug n G) R q ∧ ∀ i, i < n → ∃ t, t < n ∧ q t = i ∧ ∀ j, j < n → X i j = R t (n + j))
/-- A row of (A | I) while it is being filled: what of A is in, up to place j. -/
def arow {s : Nat} (n k j : Nat) (g : Nat → Fin s) (x : Nat) : Nat := if x < j then (g x).val else if x = n + k then 1 else 0
theorem arow_next {s : Nat} {n k j : Nat} {g : Nat → Fin s} {x : Nat} : (if x = j then (g j).val else arow n k j g x) = arow n k (j + 1) g x := by
  unfold arow
  by_cases h : x = j
  · subst h; simp
  · by_cases h2 : x < j
    · simp [h, h2, show x < j + 1 by omega]
    · simp [h, h2, show ¬ x < j + 1 by omega]
theorem arow_done {s : Nat} {F : Fd (Fin s)} (h0 : F.z.val = 0) (h1 : F.u.val = 1) {n k : Nat} {G : Nat → Nat → Fin s} {x : Nat} : arow n k n (G k) x = (F.aug n G k x).val := by
  unfold arow Fd.aug bsd Fd.idm
  by_cases h : x < n
  · simp [h]
  · by_cases h2 : x = n + k
    · subst h2; simp [h, h1]
    · simp [h, h2, h0, show ¬ k = x - n by omega]

set_option maxRecDepth 40000 in
set_option maxHeartbeats 4000000 in
theorem rinv_ok {s : Nat} {F : Fd (Fin s)} (ok : FdOk s F) (A : Option Addr) (n c : Nat) (L : Nat → Nat) (G : Nat → Nat → Fin s) (w : World) (hf : faultE n L = 0) (hcn : colsN n L = n) (hA : MI w A n L (fun i j => (G i j).val)) :
    Calls Try.prog 58 #[.int .i64 (s : Nat), .slice A n c] w fun e w' => ∃ (er : Int) (X : Nat → Nat → Fin s) (Av : Option Addr) (cv : Nat), e = .returned (.tuple #[.slice Av (if er = 0 then n else 0) cv, .int .i64 er]) ∧ InvR F n L G er X ∧ Below w.heap.size w w' ∧ MI w' Av (if er = 0 then n else 0) (fun _ => n) (fun i j => (X i j).val) := by
  obtain ⟨hn, hl, -⟩ := faultE_ok hf
  have CA := Lib.hid (rfault_any A n c L w (by omega) (fun i hi => by have := hl i hi; omega) hA.top)
  have CC := Lib.hid (fun w' (hb : Below w.heap.size w w') => rcolumns_any A n c L w' (MI.below hA hb).top)
  have HWITH := Lib.hid (fun (RA PA A : Option Addr) (r rc pc n W c : Nat) (R : Nat → Nat → Fin s) (p : Nat → Nat) (x : Nat → Fin s) (w : World) => with_any ok RA PA A r rc pc n W c R p x w)
  obtain ⟨SA, KA, hA1, hA2⟩ := RdM.len hA (fun i hi => (colsN_len hf i hi).trans hcn)
  rw [hf] at CA
  rw [hcn] at CC
  have HF := Lib.hid hf; have HCN := Lib.hid hcn
  have HZ := Lib.hid ok.zero; have HU := Lib.hid ok.one
  have HA1 := Lib.hid hA1; have HA2 := Lib.hid hA2
  clear hf hcn hA hl ok hA1 hA2
  go_enter Try.func58, Try.ntmps58
  go_wp2_with fail
  refine CA.out.mono ?_
  rintro e w1 ⟨rfl, hd1⟩
  have hb1 := hd1.below w.heap.size
  go_wp2_with fail
  refine (CC.out _ hb1).mono ?_
  rintro e w2 ⟨rfl, rfl⟩
  clear CA CC hd1
  have HQ0 : Hid ((w1.alloc (.cells #[.slice none 0 0, .slice none 0 0] 126)).rowIs w1.heap.size 126 2 (fun t => if t = 0 then Value.slice none 0 0 else Value.slice none 0 0)) :=
    World.rowIs_alloc w1 #[.slice none 0 0, .slice none 0 0] 126 _ (by intro i hi; match i, hi with | 0, _ => rfl | 1, _ => rfl)
  have HB1 := Lib.hid hb1
  have HBC := Lib.hid ((Below.refl w1.heap.size w1).alloc (Nat.le_refl _) (.cells #[.slice none 0 0, .slice none 0 0] 126))
  clear hb1
  go_wp2
  generalize w1.alloc (.cells #[.slice none 0 0, .slice none 0 0] 126) = wc at *
  generalize hBb : w1.heap.size = Bb at *
  have HBb := Lib.hid hBb; clear hBb
  go_loopg [9] n (fun g i w3 => ∃ (k rc pc : Nat) (RA PA : Option Addr) (R : Nat → Nat → Fin s) (p : Nat → Nat), k ≤ n ∧ g = n - k ∧ i = .int .i64 k ∧ w3.rowIs Bb 126 2 (fun t => if t = 0 then .slice RA k rc else .slice PA k pc) ∧
    RdMF w3 (Bb + 1) RA k (n + n) (fun i j => .int .i64 ((R i j).val : Nat)) ∧ Fr (Bb + 1) PA ∧ Rd w3 PA k (fun i => .int .i64 (p i : Nat)) ∧ F.BS k k (n + n) n (F.aug n G) R p ∧ Below Bb w1 w3)
  case atStart => exact ⟨0, 0, 0, none, none, fun _ _ => F.z, fun _ => 0, Nat.zero_le _, rfl, rfl, HQ0.out, ⟨(fun b o e => by cases e), fun _ => none, fun _ => 0, Rd.zero _ _ _, fun i hi => absurd hi (by omega)⟩, (fun b o e => by cases e), Rd.zero _ _ _, Fd.BS.start _ _ _ _ _, HBC.out⟩
  case round =>
    obtain ⟨k, rc, pc, RA, PA, R, p, hk, rfl, rfl, hq, hR, hFP, hP, hBS, hbel⟩ := hrel
    have hBl : Bb < wr.heap.size := hq.lt
    have hbw : Below w.heap.size w wr := HB1.out.trans (hbel.mono (by have h1 := HB1.out.size; have h2 := HBb.out; omega))
    have hwB : w.heap.size ≤ Bb := by have h1 := HB1.out.size; have h2 := HBb.out; omega
    have HQ := Lib.hid hq; have HR := Lib.hid hR; have HFP := Lib.hid hFP; have HP := Lib.hid hP; have HBS := Lib.hid hBS; have HBE := Lib.hid hbel; have HBW := Lib.hid hbw
    clear hq hR hFP hP hBS hbel hbw
    by_cases hlt : k < n
    · go_wp2_with fail
      rw [show (2 : Int) * (n : Int) = ((n + n : Nat) : Int) from by omega]
      refine (rzeros (n + n) _ (by omega)).mono ?_
      rintro e w2 ⟨v2, rfl, hO2, hb2⟩
      obtain ⟨g, cg, rfl, hgB, hgl, hgc, hgf⟩ := hO2.form (by omega)
      have hz2 := hb2.size
      have hc2 := hO2.cell1 (i := n + k) (by omega)
      have hf2 := hgf (n + k)
      have HO3 : Hid (Own (w2.setCell ⟨g, n + k, none⟩ (.int .i64 1)) wr.heap.size 3 1 (.slice (some ⟨g, 0, none⟩) (n + n) cg) (n + n) (fun x => [.int .i64 (arow n k 0 (G k) x : Nat)])) :=
        (hO2.set1 (show n + k < n + n by omega) (.int .i64 1)).congr fun x _ => by unfold arow; by_cases e : x = n + k <;> simp [e]
      have HB3 := Lib.hid (hb2.setCell (p := ⟨g, n + k, none⟩) hgB (.int .i64 1))
      clear hO2 hgf hb2
      obtain ⟨b1, o1, rfl, hba, hx1⟩ := HA1.out k hlt
      have HX1 := Lib.hid hx1; clear hx1
      go_wp2
      clear hc2 hf2
      generalize w2.setCell ⟨g, n + k, none⟩ (.int .i64 1) = W3 at *
      obtain ⟨wo, rfl⟩ : ∃ wo : World, wo = wr := ⟨_, rfl⟩
      go_loopg [11] n (fun gk i w4 => ∃ j : Nat, j ≤ n ∧ gk = n - j ∧ i = .int .i64 j ∧ Below wo.heap.size wo w4 ∧ Own w4 wo.heap.size 3 1 (.slice (some ⟨g, 0, none⟩) (n + n) cg) (n + n) (fun x => [.int .i64 (arow n k j (G k) x : Nat)]))
      case atStart => exact ⟨0, Nat.zero_le _, rfl, rfl, HB3.out, HO3.out⟩
      case round =>
        clear HB3 HO3
        obtain ⟨j, hj, rfl, rfl, hb4, hO4⟩ := hrel
        have hbw4 := HBW.out.trans (hb4.mono (by have := HBW.out.size; omega))
        by_cases hlj : j < n
        · obtain ⟨b3, o3, hSA, hb3, hx3⟩ := HA2.out k hlt j hlj
          have hy1 : wr.cell? ⟨b1, o1 + k, none⟩ = some (.slice (some ⟨b3, o3, none⟩) n (KA k)) := by rw [← hSA]; exact (hbw4.cell hba).trans HX1.out
          have hy3 : wr.cell? ⟨b3, o3 + j, none⟩ = some (.int .i64 ((G k j).val : Nat)) := (hbw4.cell hb3).trans hx3
          have hc4 := hO4.cell1 (i := j) (by omega)
          obtain ⟨_, _, e3, _, _, _, hfz⟩ := hO4.form (by omega)
          injection e3 with e3 _ e4
          injection e3 with e3
          injection e3 with e3 _ _
          subst e3 e4
          have hf4 := hfz j
          have HO5 := Lib.hid ((hO4.set1 (show j < n + n by omega) (.int .i64 ((G k j).val : Nat))).congr (g := fun x => [.int .i64 (arow n k (j + 1) (G k) x : Nat)]) fun x _ => by rw [← arow_next]; split <;> rfl)
          have HB5 := Lib.hid (hb4.setCell (p := ⟨g, j, none⟩) hgB (.int .i64 ((G k j).val : Nat)))
          have hjn : j < n + n := by omega
          clear hfz hx3 hSA hb4 hO4 hbw4
          go_wp2
          go_roundg (n - (j + 1))
          case measure => omega
          case rel => exact ⟨j + 1, by omega, rfl, by go_num, HB5.out, HO5.out⟩
        · obtain rfl : n = j := by omega
          obtain ⟨Ar, cr, er, _, _, hRr, _⟩ := hO4.rd
          injection er with er _ er2
          subst er er2
          have hRow : Rd wr (some ⟨g, 0, none⟩) (n + n) (fun x => .int .i64 ((F.aug n G k x).val : Nat)) := hRr.congr fun x _ => by rw [arow_done HZ.out HU.out]
          have hq4 := below_row HQ.out hb4 HQ.out.lt
          have hq0 : wr.cell? ⟨Bb, 0, none⟩ = some (.slice RA k rc) := hq4.cell (show 0 < 2 by omega)
          have hq1 : wr.cell? ⟨Bb, 1, none⟩ = some (.slice PA k pc) := hq4.cell (show 1 < 2 by omega)
          have HW := Lib.hid (HWITH.out RA PA (some ⟨g, 0, none⟩) k rc pc n (n + n) cg R p (F.aug n G k) wr (by omega) (by omega) (by omega) (fun i hi => (HBS.out.piv i hi).1) (HR.out.below hb4).rdm (HP.out.below hb4) hRow)
          have HB4 := Lib.hid hb4; have HQ4 := Lib.hid hq4
          clear hb4 hO4 hRr hRow hq4 hbw4
          go_wp2_with fail
          refine HW.out.mono ?_
          rintro e w5 ⟨hb5, hpost⟩
          have hq5 := below_row HQ4.out hb5 HQ4.out.lt
          have hc0 : w5.cell? ⟨Bb, 0, none⟩ = some (.slice RA k rc) := hq5.cell (show 0 < 2 by omega)
          have hc1 : w5.cell? ⟨Bb, 1, none⟩ = some (.slice PA k pc) := hq5.cell (show 1 < 2 by omega)
          have hf0 := hq5.frozen 0
          have hf1 := hq5.frozen 1
          have hz4 := HB4.out.size
          have hB5 : Below Bb w1 w5 := (HBE.out.trans (HB4.out.mono (by omega))).trans (hb5.mono (by omega))
          have HB5 := Lib.hid hB5; have HQ5 := Lib.hid hq5; have HB45 := Lib.hid hb5
          clear hq0 hq1 hB5 hq5 hb5
          rcases hpost with ⟨rfl, hz⟩ | ⟨q, RA', PA', rc', pc', hqC, hne, rfl, hR', hF', hP'⟩
          · have HZZ := Lib.hid hz; clear hz
            go_wp2
            go_ret2
            refine ⟨32, fun _ _ => F.z, none, 0, rfl, .inr (.inr (.inl ⟨HF.out, HCN.out, fun hf => (HBS.out.bound (by omega) hlt HZZ.out) (Fd.free_aug.2 hf), rfl⟩)), ?_, RdM.zero _ _ _ _⟩
            exact ((HB1.out.trans (HB5.out.mono hwB)).setCell (by show w.heap.size ≤ Bb; omega) _).setCell (by show w.heap.size ≤ Bb; omega) _
          · have HNE := Lib.hid hne; have HR' := Lib.hid hR'; have HF' := Lib.hid hF'; have HP' := Lib.hid hP'; clear hne hR' hF' hP'
            have hQ8 : ((w5.setCell ⟨Bb, 0, none⟩ (.slice RA' (k + 1) rc')).setCell ⟨Bb, 1, none⟩ (.slice PA' (k + 1) pc')).rowIs Bb 126 2 (fun t => if t = 0 then .slice RA' (k + 1) rc' else .slice PA' (k + 1) pc') := ((HQ5.out.set 0 _).set 1 _).congr fun t ht => by
              by_cases e : t = 0
              · subst e; simp
              · have : t = 1 := by omega
                subst this; simp
            have hR8 := (((HR'.out.mono (show Bb + 1 ≤ wr.heap.size by omega)).setOther (a := ⟨Bb, 0, none⟩) (Nat.lt_succ_self _) (.slice RA' (k + 1) rc')).setOther (a := ⟨Bb, 1, none⟩) (Nat.lt_succ_self _) (.slice PA' (k + 1) pc'))
            have hP8 := (HP'.out.setOther (a := ⟨Bb, 0, none⟩) (fun b o e => by have := HF'.out b o e; show b ≠ Bb; omega) (.slice RA' (k + 1) rc')).setOther (a := ⟨Bb, 1, none⟩) (fun b o e => by have := HF'.out b o e; show b ≠ Bb; omega) (.slice PA' (k + 1) pc')
            have HREL := Lib.hid (HBS.out.next hqC HNE.out)
            have hb8 := (HB5.out.setCell (p := ⟨Bb, 0, none⟩) (Nat.le_refl _) (.slice RA' (k + 1) rc')).setCell (p := ⟨Bb, 1, none⟩) (Nat.le_refl _) (.slice PA' (k + 1) pc')
            have HQ8 := Lib.hid hQ8; have HR8 := Lib.hid hR8; have HP8 := Lib.hid hP8; have HB8 := Lib.hid hb8
            clear hQ8 hR8 hP8 hb8
            go_wp2
            go_roundg (n - (k + 1))
            case measure => omega
            case rel => exact ⟨k + 1, rc', pc', RA', PA', _, _, by omega, rfl, by go_num, HQ8.out, HR8.out, fun b o e => by have := HF'.out b o e; omega, HP8.out, HREL.out, HB8.out⟩
    · obtain rfl : n = k := by omega
      have hsur : ∃ τ : Nat → Nat, ∀ i, i < n → τ i < n ∧ p (τ i) = i := by
        refine ⟨fun i => if h : i < n then Classical.choose (Fd.red_surj HBS.out.red' h) else 0, fun i hi => ?_⟩
        simp only [dif_pos hi]
        exact Classical.choose_spec (Fd.red_surj HBS.out.red' hi)
      obtain ⟨τ, hτ⟩ := hsur
      have hinj : ∀ t i, t < n → i < n → p t = i → t = τ i := fun t i ht hi e => HBS.out.red'.inj ht (hτ i hi).1 (by rw [e, (hτ i hi).2])
      have HT := Lib.hid hτ; have HJ := Lib.hid hinj
      clear hτ hinj
      have hq0 : wr.cell? ⟨Bb, 0, none⟩ = some (.slice RA n rc) := HQ.out.cell (show 0 < 2 by omega)
      have hq1 : wr.cell? ⟨Bb, 1, none⟩ = some (.slice PA n pc) := HQ.out.cell (show 1 < 2 by omega)
      obtain ⟨wo, hwo⟩ : ∃ wo : World, wo = wr := ⟨_, rfl⟩
      rw [← hwo] at HQ HR HP HBE HBW hq0 hq1
      have HC0 := Lib.hid hq0; have HC1 := Lib.hid hq1
      obtain ⟨_, SR, CR, hR1, hR2⟩ := HR.out
      have HR1 := Lib.hid hR1; have HR2 := Lib.hid hR2
      have hbo : Below wo.heap.size wo wr := by rw [hwo]; exact Below.refl _ _
      have hBlo : Bb < wo.heap.size := by rw [hwo]; exact hBl
      clear hR1 hR2 hq0 hq1 hwo HR HQ hlt
      go_wp2
      go_loopg [13, 14] n (fun gk v i w3 => ∃ (k : Nat) (SS : Nat → Option Addr) (CC : Nat → Nat), k ≤ n ∧ gk = n - k ∧ i = .int .i64 k ∧ Own w3 wo.heap.size 23 1 v k (fun i => [.slice (SS i) n (CC i)]) ∧ (∀ i, i < k → Rd wo (SS i) n (fun j => .int .i64 ((R (τ i) (n + j)).val : Nat))) ∧ Below wo.heap.size wo w3)
      case atStart => exact ⟨0, fun _ => none, fun _ => 0, Nat.zero_le _, rfl, rfl, Own.nil _ _ _ _ _, fun i hi => absurd hi (by omega), hbo⟩
      case round =>
        clear hbo
        obtain ⟨k, SS, CC, hk, rfl, rfl, hO, hS, hb⟩ := hrel
        have HO := Lib.hid hO; have HS := Lib.hid hS; have HBo := Lib.hid hb
        clear hO hS hb
        by_cases hkn : k < n
        · go_wp2
          go_loopg [13, 15] n (fun gk v i w4 => ∃ (t : Nat) (SS : Nat → Option Addr) (CC : Nat → Nat), t ≤ n ∧ gk = n - t ∧ i = .int .i64 t ∧ Own w4 wo.heap.size 23 1 v (if τ k < t then k + 1 else k) (fun i => [.slice (SS i) n (CC i)]) ∧ (∀ i, i < (if τ k < t then k + 1 else k) → Rd wo (SS i) n (fun j => .int .i64 ((R (τ i) (n + j)).val : Nat))) ∧ Below wo.heap.size wo w4)
          case atStart => exact ⟨0, SS, CC, Nat.zero_le _, rfl, rfl, by rw [if_neg (by omega)]; exact HO.out, by rw [if_neg (by omega)]; exact HS.out, HBo.out⟩
          case round =>
            clear HO HS HBo
            obtain ⟨t, SS, CC, ht, rfl, rfl, hO, hS, hb⟩ := hrel
            have hsz := hb.size
            by_cases htn : t < n
            · obtain ⟨b2, o2, hPA, hb2, hx2⟩ := HP.out t htn
              obtain ⟨b1, o1, hRA, hb1, hx1⟩ := HR1.out t htn
              have hy0 : wr.cell? ⟨Bb, 0, none⟩ = some (.slice (some ⟨b1, o1, none⟩) n rc) := by rw [← hRA]; exact (hb.cell hBlo).trans HC0.out
              have hy1 : wr.cell? ⟨Bb, 1, none⟩ = some (.slice (some ⟨b2, o2, none⟩) n pc) := by rw [← hPA]; exact (hb.cell hBlo).trans HC1.out
              have hy2 : wr.cell? ⟨b2, o2 + t, none⟩ = some (.int .i64 (p t : Nat)) := (hb.cell hb2).trans hx2
              clear hx2 hPA hRA
              by_cases hpt : p t = k
              · have htk : t = τ k := HJ.out t k htn hkn hpt
                have t1 : ((p t : Int) == (k : Int)) = true := by simp [hpt]
                obtain ⟨hRt, _, hCt⟩ := HR2.out t htn
                obtain ⟨b5, o5, hSR, hb5, _⟩ := hRt 0 (by omega)
                have hy3 : wr.cell? ⟨b1, o1 + t, none⟩ = some (.slice (some ⟨b5, o5, none⟩) (n + n) (CR t)) := by rw [← hSR]; exact (hb.cell hb1).trans hx1
                have e1 : (if τ k < t then k + 1 else k) = k := if_neg (by omega)
                have e2 : (if τ k < t + 1 then k + 1 else k) = k + 1 := if_pos (by omega)
                rw [e1] at hO hS
                have HSn : Hid (∀ i, i < k + 1 → Rd wo (upd SS k (some ⟨b5, o5 + n, none⟩) i) n (fun j => .int .i64 ((R (τ i) (n + j)).val : Nat))) := fun i hi => by
                  by_cases e : i = k
                  · subst e
                    rw [upd_at]
                    intro j hj
                    obtain ⟨b', o', e3, hb', hc'⟩ := hRt (n + j) (by omega)
                    rw [hSR] at e3
                    injection e3 with e3
                    injection e3 with e3 e4 _
                    subst e3 e4
                    exact ⟨b5, o5 + n, rfl, hb', by rw [Nat.add_assoc, hc', ← htk]⟩
                  · rw [upd_ne _ _ _ e]; exact hS i (by omega)
                have hOn := hO.congr (g := fun i => [.slice (upd SS k (some ⟨b5, o5 + n, none⟩) i) n (upd CC k (CR t - n) i)]) fun i hi => by rw [upd_ne _ _ _ (by omega), upd_ne _ _ _ (by omega)]
                have hu : Hid ((#[Value.slice (some ⟨b5, o5 + n, none⟩) n (CR t - n)] : Array Value).toList = [.slice (upd SS k (some ⟨b5, o5 + n, none⟩) k) n (upd CC k (CR t - n) k)]) := by rw [upd_at, upd_at]; rfl
                have HE2 := Lib.hid e2; have HB2 := Lib.hid hb
                have hs1 : (0 : Int) ≤ (n : Int) := by omega
                have hs2 : (n : Int) ≤ (n : Int) + (n : Int) := by omega
                have hs3 : (n : Int) ≤ ((n + n : Nat) : Int) := by omega
                have hs4 : ((n + n : Nat) : Int) ≤ (CR t : Int) := by omega
                have hs5 : (n : Int) < (CR t : Int) := by omega
                clear hO hS hx1 hpt e1 e2 hRt hSR hb htk
                have hnn : n ≠ 0 := by omega
                go_wp2_with (at_builtin; refine wpList_push _ rfl (.tmp 87) (.tmp 95) 22 rfl wo.heap.size 23 1 24 (.slice none 0 0) #[.slice (some ⟨b5, o5 + n, none⟩) n (CR t - n)] Try.underlying22 intsInfo rfl (by decide) _ k _ rfl hOn hsz _ rfl rfl hu.out rfl rfl (by omega) (by omega) ?_)
                intro v' w6 hown6 hb6 hg6 _
                have HO6 := Lib.hid hown6
                have HB6 := Lib.hid (HB2.out.trans hb6)
                clear hown6 hb6 hg6 hOn hs1 hs2 hs3 hs4 hs5 hy0 hy1 hy2 hy3 t1
                go_wp2
                go_roundg (n - (t + 1))
                case measure => omega
                case rel => exact ⟨t + 1, _, _, by omega, rfl, by go_num, by rw [HE2.out]; exact HO6.out, by rw [HE2.out]; exact HSn.out, HB6.out⟩
              · have t1 : ((p t : Int) == (k : Int)) = false := by rw [beq_eq_false_iff_ne]; omega
                have e1 : (if τ k < t + 1 then k + 1 else k) = (if τ k < t then k + 1 else k) := by
                  by_cases h : τ k < t
                  · rw [if_pos h, if_pos (by omega)]
                  · by_cases h2 : τ k = t
                    · exfalso; exact hpt (by rw [← h2]; exact (HT.out k hkn).2)
                    · rw [if_neg h, if_neg (by omega)]
                have HE := Lib.hid e1; have HO := Lib.hid hO; have HS := Lib.hid hS; have HB2 := Lib.hid hb
                clear e1 hpt hO hS hb hx1
                go_wp2
                go_roundg (n - (t + 1))
                case measure => omega
                case rel => exact ⟨t + 1, SS, CC, by omega, rfl, by go_num, by rw [HE.out]; exact HO.out, by rw [HE.out]; exact HS.out, HB2.out⟩
            · obtain rfl : n = t := by omega
              have e1 : (if τ k < n then k + 1 else k) = k + 1 := if_pos (HT.out k hkn).1
              rw [e1] at hO hS
              have HO := Lib.hid hO; have HS := Lib.hid hS; have HB2 := Lib.hid hb
              clear hO hS hb e1
              go_wp2
              go_roundg (n - (k + 1))
              case measure => omega
              case rel => exact ⟨k + 1, SS, CC, by omega, rfl, by go_num, HO.out, HS.out, HB2.out⟩
        · obtain rfl : n = k := by omega
          obtain ⟨Av, cv, hv, _, _, hRv, _⟩ := HO.out.rd
          subst hv
          have HRv := Lib.hid hRv; clear hRv
          go_wp2
          go_ret2
          exact ⟨0, fun i j => R (τ i) (n + j), Av, cv, rfl, .inr (.inr (.inr ⟨HF.out, HCN.out, rfl, R, p, HBS.out, fun i hi => ⟨τ i, (HT.out i hi).1, (HT.out i hi).2, fun _ _ => rfl⟩⟩)), HBW.out.trans (HBo.out.mono (by have := HBW.out.size; omega)), ⟨SS, CC, HRv.out, fun i hi => (HS.out i hi).below HBo.out⟩⟩
end Go.Proofs.Ytpocjpodeahanaa

/- The document's Inverse in every case, and that it is the program's. Conditions: lengths that memory bears. -/
namespace Go.Proofs.Ytpocjpodeahanaa
open Go.RowKit

/-- A number brought below the field's size, as a number of the field. -/
def lowF (s : Nat) (hs : 2 ≤ s) (i : Int) : Fin s := ⟨lowN s i, by have := lowN_lt (s := (s : Int)) (by omega) i; omega⟩
theorem Top.below' {w w' : World} {A : Option Addr} {n : Nat} {L : Nat → Nat} (h : Top w A n L) (hb : Below w.heap.size w w') : Top w' A n L := by
  obtain ⟨S, C, h1⟩ := h
  exact ⟨S, C, h1.below hb⟩
set_option maxHeartbeats 400000 in
theorem rinv_bad (s : Nat) (A : Option Addr) (n c : Nat) (L : Nat → Nat) (w : World) (hn : n ≤ 9223372036854775807) (hL : ∀ i, i < n → L i ≤ 9223372036854775807) (hA : Top w A n L) (h : ¬ (faultE n L = 0 ∧ colsN n L = n)) :
    Calls Try.prog 58 #[.int .i64 s, .slice A n c] w fun e w' => e = .returned (.tuple #[.slice none 0 0, .int .i64 (if faultE n L = 0 then 31 else faultE n L)]) ∧ Below w.heap.size w w' := by
  have CA := Lib.hid (rfault_any A n c L w hn hL hA)
  have CC := Lib.hid (fun w1 (hd : Dr w w1) => rcolumns_any A n c L w1 (hA.below' (hd.below w.heap.size)))
  clear hL hA
  generalize faultE n L = fa at *
  generalize colsN n L = ca at *
  by_cases h1 : fa = 0
  · subst h1
    have h3 : ¬ ca = n := fun e => h ⟨rfl, e⟩
    have t1 : ((ca : Int) != (n : Int)) = true := by rw [bne_iff_ne]; omega
    clear h3 h
    go_enter Try.func58, Try.ntmps58
    go_wp2_with fail
    refine CA.out.mono ?_
    rintro e w1 ⟨rfl, hd1⟩
    go_wp2_with fail
    refine (CC.out w1 hd1).mono ?_
    rintro e w3 ⟨rfl, rfl⟩
    clear CA CC
    have hb := hd1.below w.heap.size
    clear hd1
    go_wp2
    go_ret2
    exact ⟨rfl, hb⟩
  · have HE : Hid ((if fa = 0 then (31 : Int) else fa) = fa) := if_neg h1
    have t1 : (fa != 0) = true := by simpa using h1
    have t2 : (fa == 0) = false := by simpa using h1
    clear h1 h
    rw [HE.out]
    go_enter Try.func58, Try.ntmps58
    go_wp2_with fail
    refine CA.out.mono ?_
    rintro e w1 ⟨rfl, hd1⟩
    have hb := hd1.below w.heap.size
    clear CA CC hd1
    go_wp2
    go_ret2
    exact ⟨rfl, hb⟩
theorem rinv_any {s : Nat} {F : Fd (Fin s)} (ok : FdOk s F) (A : Option Addr) (n c : Nat) (L : Nat → Nat) (G : Nat → Nat → Fin s) (w : World) (hn : n ≤ 9223372036854775807) (hL : ∀ i, i < n → L i ≤ 9223372036854775807) (hA : MI w A n L (fun i j => (G i j).val)) :
    Calls Try.prog 58 #[.int .i64 (s : Nat), .slice A n c] w fun e w' => ∃ (er : Int) (X : Nat → Nat → Fin s) (Av : Option Addr) (cv : Nat), e = .returned (.tuple #[.slice Av (if er = 0 then n else 0) cv, .int .i64 er]) ∧ InvR F n L G er X ∧ Below w.heap.size w w' ∧ MI w' Av (if er = 0 then n else 0) (fun _ => n) (fun i j => (X i j).val) := by
  by_cases h : faultE n L = 0 ∧ colsN n L = n
  · exact rinv_ok ok A n c L G w h.1 h.2 hA
  · refine (rinv_bad s A n c L w hn hL hA.top h).mono ?_
    rintro e w' ⟨he, hb⟩
    by_cases hf : faultE n L = 0
    · rw [if_pos hf] at he
      exact ⟨31, fun _ _ => F.z, none, 0, he, .inr (.inl ⟨hf, fun e => h ⟨hf, e⟩, rfl⟩), hb, RdM.zero _ _ _ _⟩
    · rw [if_neg hf] at he
      refine ⟨faultE n L, fun _ _ => F.z, none, 0, ?_, .inl ⟨hf, rfl⟩, hb, ?_⟩
      · rw [if_neg hf]; exact he
      · rw [if_neg hf]; exact RdM.zero _ _ _ _
/-- The program's answer is the document's. -/
theorem inv_same {α : Type} {F : Fd α} {n : Nat} {L : Nat → Nat} {G : Nat → Nat → α} {er er' : Int} {X X' : Nat → Nat → α} (h : InvP F n L G er X) (h' : InvR F n L G er' X') : er = er' ∧ (er = 0 → ∀ i, i < n → ∀ j, j < n → X i j = X' i j) := by
  have hp : (∃ G' p, F.RR n (n + n) n (F.aug n G) G' n p) → F.Free n n G := fun ⟨G', p, hr⟩ => Fd.free_aug.1 ((hr.full_iff (by omega)).1 rfl)
  have hq : (∃ R q, F.BS n n (n + n) n (F.aug n G) R q) → F.Free n n G := fun ⟨R, q, hb⟩ => Fd.free_aug.1 (hb.free (by omega))
  rcases h with ⟨a1, a2⟩ | ⟨a1, a2, a3⟩ | ⟨a1, a2, a3, a4⟩ | ⟨a1, a2, a3, G', p, hr, hx⟩
  · rcases h' with ⟨b1, b2⟩ | ⟨b1, _⟩ | ⟨b1, _⟩ | ⟨b1, _⟩
    · exact ⟨by rw [a2, b2], fun e => absurd (a2 ▸ e) a1⟩
    · exact absurd b1 a1
    · exact absurd b1 a1
    · exact absurd b1 a1
  · rcases h' with ⟨b1, b2⟩ | ⟨b1, b2, b3⟩ | ⟨b1, b2, _⟩ | ⟨b1, b2, _⟩
    · exact absurd a1 b1
    · exact ⟨by rw [a3, b3], fun e => by omega⟩
    · exact absurd b2 a2
    · exact absurd b2 a2
  · rcases h' with ⟨b1, b2⟩ | ⟨b1, b2, b3⟩ | ⟨b1, b2, b3, b4⟩ | ⟨b1, b2, b3, R, q, hb, _⟩
    · exact absurd a1 b1
    · exact absurd a2 b2
    · exact ⟨by rw [a4, b4], fun e => by omega⟩
    · exact absurd (hq ⟨R, q, hb⟩) a3
  · rcases h' with ⟨b1, b2⟩ | ⟨b1, b2, b3⟩ | ⟨b1, b2, b3, b4⟩ | ⟨b1, b2, b3, R, q, hb, hy⟩
    · exact absurd a1 b1
    · exact absurd a2 b2
    · exact absurd (hp ⟨G', p, hr⟩) b3
    · refine ⟨by rw [a3, b3], fun _ i hi j hj => ?_⟩
      obtain ⟨t, ht, hqt, hxt⟩ := hy i hi
      rw [hxt j hj, hx, Fd.row_eq hr (by omega) hb ht (n + j) (by omega), hqt]
theorem InvP.small {α : Type} {F : Fd α} {n : Nat} {L : Nat → Nat} {G : Nat → Nat → α} {er : Int} {X : Nat → Nat → α} (h : InvP F n L G er X) : (if er = 0 then n else 0) ≤ 255 ∧ (er = 0 → n ≤ 255) := by
  by_cases e : er = 0
  · rw [if_pos e]
    have hn : n ≤ 255 := by
      rcases h with ⟨a1, a2⟩ | ⟨a1, _⟩ | ⟨a1, _⟩ | ⟨a1, _⟩
      · exact absurd (a2 ▸ e) a1
      · exact (faultE_ok a1).1
      · exact (faultE_ok a1).1
      · exact (faultE_ok a1).1
    exact ⟨hn, fun _ => hn⟩
  · rw [if_neg e]; exact ⟨by omega, fun h => absurd h e⟩
end Go.Proofs.Ytpocjpodeahanaa
