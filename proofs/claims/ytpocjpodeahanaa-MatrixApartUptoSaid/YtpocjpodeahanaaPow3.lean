/- Powers of the fields of two and of four; every case of the four. Conditions: numbers below the field's size. -/
import Derived.Test.YtpocjpodeahanaaPow2
import Derived.Test.YtpocjpodeahanaaMulBF
import Derived.Deep.AppendLies
namespace Go.Proofs.Ytpocjpodeahanaa
open Go.RowKit

theorem pw_lt2 {one p : Nat} (h : one < 2) (hp : p < 2) : ∀ j, pw 2 one p j < 2
  | 0 => h
  | j + 1 => mulR_lt2 (pw_lt2 h hp j) hp
theorem pw_lt4 {one p : Nat} (h : one < 4) (hp : p < 4) : ∀ j, pw 4 one p j < 4
  | 0 => h
  | j + 1 => (mul4 (pw_lt4 h hp j) hp).1
/-- A number of the field of four as its two cells. -/
def pcell (x j : Nat) : Value := if j % 2 = 0 then .bool (f0 x) else .bool (f1 x)

set_option maxRecDepth 20000 in
set_option maxHeartbeats 1000000 in
theorem powB (A : Option Addr) (n c cols one : Nat) (g : Nat → Nat) (w : World) (hn : n ≤ 255) (hcols : cols ≤ 255) (h1 : one < 2) (hg : ∀ i, i < n → g i < 2) (hA : Rd w A n fun i => .bool (bB (g i))) :
    Calls Try.prog 39 #[.slice A n c, .int .i64 cols, .bool (bB one)] w fun e w' => ∃ b S, e = .returned (.tuple #[.slice (some ⟨b, 0, none⟩) n n, .int .i64 0]) ∧
      Mx w' w.heap.size b 65 40 n S cols cols (fun i j => .bool (bB (pw 2 one (g i) j))) ∧ Below w.heap.size w w' := by
  have HG := Lib.hid hg; clear hg
  go_enter Try.func39, Try.ntmps39
  go_wp2_with (go_at_call 80; (with_reducible refine (zerosB n cols _ (by omega) (by omega)).mono ?_); rintro e w1 ⟨rfl, hM, hbel⟩)
  go_loopg [9, 10, 11, 12, 28] n (fun gk _ _ _ _ i wr => ∃ k : Nat, k ≤ n ∧ gk = n - k ∧ i = .int .i64 k ∧ Below w.heap.size w wr ∧
    Mx wr w.heap.size w.heap.size 65 40 n (fun i => w.heap.size + 1 + i) cols cols (pwc (.bool false) k 0 (fun i j => .bool (bB (pw 2 one (g i) j)))))
  case atStart => exact ⟨0, Nat.zero_le _, rfl, rfl, hbel, hM.congr (by intro i j _ _; simp [pwc])⟩
  case round =>
    clear hM hbel
    obtain ⟨k, hk, rfl, rfl, hbel, hM⟩ := hrel
    by_cases hlt : k < n
    · have hrowk := hM.top.cell hlt
      obtain ⟨b, o, rfl, hb, hc⟩ := hA k hlt
      go_wp2
      clear hc hrowk
      have hc : w.cell? ⟨b, o + k, none⟩ = some (.bool (bB (g k))) := by
        obtain ⟨b', o', e1, _, hc⟩ := hA k hlt
        injection e1 with e1; injection e1 with e1 e2; subst e1 e2
        exact hc
      go_loopg [11, 12, 36] cols (fun gk now _ i w2 => ∃ j : Nat, j ≤ cols ∧ gk = cols - j ∧ i = .int .i64 j ∧ now = .bool (bB (pw 2 one (g k) j)) ∧ Below w.heap.size w w2 ∧
        Mx w2 w.heap.size w.heap.size 65 40 n (fun i => w.heap.size + 1 + i) cols cols (pwc (.bool false) k j (fun i j => .bool (bB (pw 2 one (g i) j)))))
      case atStart => exact ⟨0, Nat.zero_le _, rfl, rfl, rfl, hbel, hM⟩
      case round =>
        clear hM hbel
        obtain ⟨j, hj, rfl, rfl, rfl, hbel, hM⟩ := hrel
        by_cases hlj : j < cols
        · have hst := (hM.row k hlt).cell hlj
          have hfz := (hM.row k hlt).frozen j
          have hpn : bB (pw 2 one (g k) (j + 1)) = (bB (pw 2 one (g k) j) && bB (g k)) := bB_mul (pw_lt2 h1 (HG.out k hlt) j) (HG.out k hlt)
          have hcr : ∀ v, (wr.setCell ⟨w.heap.size + 1 + k, j, none⟩ v).cell? ⟨b, o + k, none⟩ = some (.bool (bB (g k))) := fun v => (cell_set_ne v (by simp; omega)).trans ((hbel.cell hb).trans hc)
          have HN := Lib.hid hpn; clear hpn
          have HS := Lib.hid (hM.set hlt j (.bool (bB (pw 2 one (g k) j))))
          have hbs := Lib.hid (hbel.setCell (p := ⟨w.heap.size + 1 + k, j, none⟩) (by simp; omega) (.bool (bB (pw 2 one (g k) j))))
          go_wp2_with (go_at_call 138; (with_reducible refine (timesB_any _ _ _).mono ?_); rintro e w4 ⟨rfl, rfl⟩)
          go_roundg (cols - (j + 1))
          case measure => omega
          case rel => exact ⟨j + 1, by omega, rfl, by go_num, by rw [HN.out], hbs.out, HS.out.congr fun i' j' _ _ => pwc_next (g := fun i j => .bool (bB (pw 2 one (g i) j)))⟩
        · have : j = cols := by omega
          subst this
          go_wp2
          go_roundg (n - (k + 1))
          case measure => omega
          case rel => exact ⟨k + 1, by omega, rfl, by go_num, hbel, hM.congr fun i j _ hj => pwc_row hj⟩
    · have : k = n := by omega
      subst this
      go_wp2
      go_ret2
      exact ⟨_, _, rfl, hM.congr (by intro i j hi _; simp [hi, pwc]), hbel⟩
theorem follows_mixed : Try.prog.follows .mixedOrders = true := by kernel_rfl
theorem Mx.setElse {w : World} {B b tR e n L M : Nat} {S : Nat → Nat} {f : Nat → Nat → Value} (h : Mx w B b tR e n S L M f) {a : Addr} (hb : b ≠ a.block) (hs : ∀ i, i < n → S i ≠ a.block) (v : Value) : Mx (w.setCell a v) B b tR e n S L M f :=
  ⟨h.top.setOther hb v, fun i hi => (h.row i hi).setOther (hs i hi) v, h.lob, h.los, h.inj, h.off⟩
theorem pwc_two {k j i' j' : Nat} {G : Nat → Nat → Nat} :
    (if i' = k ∧ j' = j * 2 + 1 then Value.bool (f1 (G k j)) else if i' = k ∧ j' = j * 2 then Value.bool (f0 (G k j)) else pwc (.bool false) k (j * 2) (fun i j => pcell (G i (j / 2)) j) i' j') = pwc (.bool false) k ((j + 1) * 2) (fun i j => pcell (G i (j / 2)) j) i' j' := by
  unfold pwc
  by_cases h1 : i' = k
  · subst h1
    by_cases h2 : j' = j * 2 + 1
    · subst h2
      rw [if_pos ⟨rfl, rfl⟩, if_pos (Or.inr ⟨rfl, by omega⟩)]
      simp [pcell, show (j * 2 + 1) / 2 = j by omega]
    · by_cases h3 : j' = j * 2
      · subst h3
        rw [if_neg (by omega), if_pos ⟨rfl, rfl⟩, if_pos (Or.inr ⟨rfl, by omega⟩)]
        simp [pcell]
      · rw [if_neg (by omega), if_neg (by omega)]
        by_cases h4 : j' < j * 2
        · rw [if_pos (Or.inr ⟨rfl, h4⟩), if_pos (Or.inr ⟨rfl, by omega⟩)]
        · rw [if_neg (by omega), if_neg (by omega)]
  · simp [h1]

set_option maxRecDepth 20000 in
set_option maxHeartbeats 1000000 in
theorem powF (A : Option Addr) (n c cols one : Nat) (g : Nat → Nat) (w : World) (hn : n ≤ 255) (hcols : cols ≤ 255) (h1 : one < 4) (hg : ∀ i, i < n → g i < 4) (hA : Rd2 w A n (fun i => .bool (f0 (g i))) (fun i => .bool (f1 (g i)))) :
    Calls Try.prog 41 #[.slice A n c, .int .i64 cols, .agg #[.bool (f0 one), .bool (f1 one)]] w fun e w' => ∃ b S, e = .returned (.tuple #[.slice (some ⟨b, 0, none⟩) n n, .int .i64 0]) ∧
      Mx w' w.heap.size b 68 47 n S cols (cols * 2) (fun i j => pcell (pw 4 one (g i) (j / 2)) j) ∧ Below w.heap.size w w' := by
  have HG := Lib.hid hg; clear hg
  go_enter Try.func41, Try.ntmps41
  go_wp2_with (go_at_call 81; (with_reducible refine (zerosF n cols _ (by omega) (by omega)).mono ?_); rintro e w1 ⟨rfl, hM, hbel⟩)
  have hM0 : Mx w1 (w.heap.size + 1) (w.heap.size + 1) 68 47 n (fun i => w.heap.size + 1 + 1 + i) cols (cols * 2) (fun _ _ => .bool false) := by simpa using hM
  have hb0 : Below w.heap.size w w1 := ((Below.refl _ _).alloc (Nat.le_refl _) _).trans (hbel.mono (by simp))
  have hx0 : w1.cell? ⟨w.heap.size, 0, none⟩ = some (.bool (f0 one)) := by rw [hbel.cell (by simp)]; go_simp
  have hx1 : w1.cell? ⟨w.heap.size, 1, none⟩ = some (.bool (f1 one)) := by rw [hbel.cell (by simp)]; go_simp
  clear hM hbel
  go_loopg [9, 10, 11, 12, 28] n (fun gk _ _ _ _ i wr => ∃ k : Nat, k ≤ n ∧ gk = n - k ∧ i = .int .i64 k ∧ Below w.heap.size w wr ∧ wr.cell? ⟨w.heap.size, 0, none⟩ = some (.bool (f0 one)) ∧ wr.cell? ⟨w.heap.size, 1, none⟩ = some (.bool (f1 one)) ∧
    Mx wr (w.heap.size + 1) (w.heap.size + 1) 68 47 n (fun i => w.heap.size + 1 + 1 + i) cols (cols * 2) (pwc (.bool false) k 0 (fun i j => pcell (pw 4 one (g i) (j / 2)) j)))
  case atStart => exact ⟨0, Nat.zero_le _, rfl, rfl, hb0, hx0, hx1, hM0.congr (by intro i j _ _; simp [pwc])⟩
  case round =>
    clear hM0 hb0 hx0 hx1
    obtain ⟨k, hk, rfl, rfl, hbel, hx0, hx1, hM⟩ := hrel
    by_cases hlt : k < n
    · have hrowk := hM.top.cell hlt
      have hsz : w.heap.size + 1 ≤ wr.heap.size := Nat.le_of_lt hM.top.lt
      have hp0 := hA k hlt
      obtain ⟨b, o, rfl, hb, hcA, hcB⟩ := hp0
      have HcA := Lib.hid hcA; have HcB := Lib.hid hcB
      clear hcA hcB hA
      go_wp2
      have HM := Lib.hid (hM.alloc (.cells #[.bool (f0 one), .bool (f1 one)] 47))
      have HR : Hid ((wr.alloc (.cells #[.bool (f0 one), .bool (f1 one)] 47)).rowIs wr.heap.size 47 2 (fun t => pcell (pw 4 one (g k) 0) t)) :=
        World.rowIs_alloc wr #[.bool (f0 one), .bool (f1 one)] 47 _ (by intro i hi; match i, hi with | 0, _ => rfl | 1, _ => rfl)
      have HB := Lib.hid (hbel.alloc (by omega) (.cells #[.bool (f0 one), .bool (f1 one)] 47))
      have HX0 := Lib.hid hx0; have HX1 := Lib.hid hx1
      have HXA : Hid ((wr.alloc (.cells #[.bool (f0 one), .bool (f1 one)] 47)).cell? ⟨w.heap.size, 0, none⟩ = some (.bool (f0 one))) := by show _ = _; rw [((Below.refl wr.heap.size wr).alloc (Nat.le_refl _) _).cell (by show w.heap.size < wr.heap.size; omega)]; exact hx0
      have HXB : Hid ((wr.alloc (.cells #[.bool (f0 one), .bool (f1 one)] 47)).cell? ⟨w.heap.size, 1, none⟩ = some (.bool (f1 one))) := by show _ = _; rw [((Below.refl wr.heap.size wr).alloc (Nat.le_refl _) _).cell (by show w.heap.size < wr.heap.size; omega)]; exact hx1
      have hrn : w.heap.size + 1 + 1 + k < wr.heap.size := (hM.row k hlt).lt
      have hrall : ∀ i, i < n → w.heap.size + 1 + 1 + i < wr.heap.size := fun i hi => (hM.row i hi).lt
      have HRA := Lib.hid hrall
      have hnw : w.heap.size + 1 + 1 ≤ wr.heap.size := by omega
      clear hM hbel hx0 hx1 hrowk hrall HX0 HX1
      generalize wr.alloc (.cells #[.bool (f0 one), .bool (f1 one)] 47) = wi at *
      generalize wr.heap.size = nb at *
      go_loopg [12, 36] cols (fun gk _ i w2 => ∃ j : Nat, j ≤ cols ∧ gk = cols - j ∧ i = .int .i64 j ∧ Below w.heap.size w w2 ∧ w2.rowIs nb 47 2 (fun t => pcell (pw 4 one (g k) j) t) ∧
        w2.cell? ⟨w.heap.size, 0, none⟩ = some (.bool (f0 one)) ∧ w2.cell? ⟨w.heap.size, 1, none⟩ = some (.bool (f1 one)) ∧
        Mx w2 (w.heap.size + 1) (w.heap.size + 1) 68 47 n (fun i => w.heap.size + 1 + 1 + i) cols (cols * 2) (pwc (.bool false) k (j * 2) (fun i j => pcell (pw 4 one (g i) (j / 2)) j)))
      case atStart => exact ⟨0, Nat.zero_le _, rfl, rfl, HB.out, HR.out, HXA.out, HXB.out, HM.out⟩
      case round =>
        clear HM HR HB HXA HXB
        obtain ⟨j, hj, rfl, rfl, hbel, hR, hx0, hx1, hM⟩ := hrel
        by_cases hlj : j < cols
        · have hst0 := (hM.row k hlt).cell (show j * 2 < cols * 2 by omega)
          have hst1 := (hM.row k hlt).cell (show j * 2 + 1 < cols * 2 by omega)
          have hfz0 := (hM.row k hlt).frozen (j * 2)
          have hfz1 := (hM.row k hlt).frozen (j * 2 + 1)
          have hc0 : wr.cell? ⟨nb, 0, none⟩ = some (.bool (f0 (pw 4 one (g k) j))) := hR.cell (show 0 < 2 by omega)
          have hc1 : wr.cell? ⟨nb, 1, none⟩ = some (.bool (f1 (pw 4 one (g k) j))) := hR.cell (show 1 < 2 by omega)
          have hcA : wr.cell? ⟨b, o + k * 2, none⟩ = some (.bool (f0 (g k))) := (hbel.cell hb).trans HcA.out
          have hcB : wr.cell? ⟨b, o + k * 2 + 1, none⟩ = some (.bool (f1 (g k))) := (hbel.cell hb).trans HcB.out
          have e0 : ∀ v0 v1 (p : Addr), p.block ≠ w.heap.size + 1 + 1 + k → ((wr.setCell ⟨w.heap.size + 1 + 1 + k, j * 2, none⟩ v0).setCell ⟨w.heap.size + 1 + 1 + k, j * 2 + 1, none⟩ v1).cell? p = wr.cell? p := fun v0 v1 p h => (cell_set_ne _ h).trans (cell_set_ne _ h)
          have G1 := (e0 (.bool (f0 (pw 4 one (g k) j))) (.bool (f1 (pw 4 one (g k) j))) ⟨nb, 0, none⟩ (by show nb ≠ _; omega)).trans hc0
          have G2 := (e0 (.bool (f0 (pw 4 one (g k) j))) (.bool (f1 (pw 4 one (g k) j))) ⟨nb, 1, none⟩ (by show nb ≠ _; omega)).trans hc1
          have G3 := (e0 (.bool (f0 (pw 4 one (g k) j))) (.bool (f1 (pw 4 one (g k) j))) ⟨b, o + k * 2, none⟩ (by show b ≠ _; omega)).trans hcA
          have G4 := (e0 (.bool (f0 (pw 4 one (g k) j))) (.bool (f1 (pw 4 one (g k) j))) ⟨b, o + k * 2 + 1, none⟩ (by show b ≠ _; omega)).trans hcB
          have G5 := (e0 (.bool (f0 (pw 4 one (g k) j))) (.bool (f1 (pw 4 one (g k) j))) ⟨w.heap.size, 0, none⟩ (by show w.heap.size ≠ _; omega)).trans hx0
          have G6 := (e0 (.bool (f0 (pw 4 one (g k) j))) (.bool (f1 (pw 4 one (g k) j))) ⟨w.heap.size, 1, none⟩ (by show w.heap.size ≠ _; omega)).trans hx1
          have G7 := (hM.set hlt (j * 2) (.bool (f0 (pw 4 one (g k) j)))).set hlt (j * 2 + 1) (.bool (f1 (pw 4 one (g k) j)))
          have G8 := (hR.setOther (a := ⟨w.heap.size + 1 + 1 + k, j * 2, none⟩) (by show nb ≠ w.heap.size + 1 + 1 + k; omega) (.bool (f0 (pw 4 one (g k) j)))).setOther (a := ⟨w.heap.size + 1 + 1 + k, j * 2 + 1, none⟩) (by show nb ≠ w.heap.size + 1 + 1 + k; omega) (.bool (f1 (pw 4 one (g k) j)))
          have G9 := (hbel.setCell (p := ⟨w.heap.size + 1 + 1 + k, j * 2, none⟩) (by simp; omega) (.bool (f0 (pw 4 one (g k) j)))).setCell (p := ⟨w.heap.size + 1 + 1 + k, j * 2 + 1, none⟩) (by simp; omega) (.bool (f1 (pw 4 one (g k) j)))
          have K5 := Lib.hid G5; have K6 := Lib.hid G6; have K7 := Lib.hid G7; have K8 := Lib.hid G8; have K9 := Lib.hid G9
          have K1 := Lib.hid G1; have K2 := Lib.hid G2; have K3 := Lib.hid G3; have K4 := Lib.hid G4
          clear G1 G2 G3 G4 G5 G6 G7 G8 G9 e0 hcA hcB
          go_wp2_with fail
          clear hst0 hst1 hfz0 hfz1 hM hR hx0 hx1 hc0 hc1 hbel
          generalize (wr.setCell ⟨w.heap.size + 1 + 1 + k, j * 2, none⟩ (.bool (f0 (pw 4 one (g k) j)))).setCell ⟨w.heap.size + 1 + 1 + k, j * 2 + 1, none⟩ (.bool (f1 (pw 4 one (g k) j))) = W3 at *
          have g1 := K1.out; have g2 := K2.out; have g3 := K3.out; have g4 := K4.out
          have hgk := HG.out k hlt
          have hm4 := Lib.hid (mul4 (pw_lt4 h1 hgk j) hgk)
          have HLT := Lib.hid hrn
          generalize hX0 : f0 (pw 4 one (g k) j) = X0 at *
          generalize hX1 : f1 (pw 4 one (g k) j) = X1 at *
          generalize hY0 : f0 (g k) = Y0 at *
          generalize hY1 : f1 (g k) = Y1 at *
          have E0 := Lib.hid hX0; have E1 := Lib.hid hX1; have E2 := Lib.hid hY0; have E3 := Lib.hid hY1
          clear hX0 hX1 hY0 hY1
          as_aux_lemma =>
            go_still_tail 6, follows_mixed
            change wpList _ _ _ _ _ W3.drew
            clear g1 g2 g3 g4
            go_wp2_with (go_at_call 142; (with_reducible refine (timesF_any _ _ _ _ _).mono ?_); rintro e w4 ⟨rfl, hb4⟩; have r4 := below_row (w := W3.drew) K8.out hb4 K8.out.lt; have z0 := r4.frozen 0; have z1 := r4.frozen 1; have y0 := r4.cell (show 0 < 2 by decide); have y1 := r4.cell (show 1 < 2 by decide))
            go_roundg (cols - (j + 1))
            case measure => omega
            case rel =>
              have hB4 : Below w.heap.size w w4 := K9.out.drew.trans (hb4.mono K9.out.size)
              have hwl : w.heap.size < W3.heap.size := by have := K8.out.lt; omega
              refine ⟨j + 1, by omega, rfl, by go_num, (hB4.setCell (by show w.heap.size ≤ nb; omega) _).setCell (by show w.heap.size ≤ nb; omega) _, ((r4.set 0 _).set 1 _).congr ?_, ?_, ?_, ?_⟩
              · intro u hu
                match u, hu with
                | 0, _ => simp [pcell, pw, hm4.out.2.1]
                | 1, _ => simp [pcell, pw, hm4.out.2.2]
              · exact ((cell_set_ne _ (by show w.heap.size ≠ nb; omega)).trans (cell_set_ne _ (by show w.heap.size ≠ nb; omega))).trans ((hb4.cell (p := ⟨w.heap.size, 0, none⟩) hwl).trans K5.out)
              · exact ((cell_set_ne _ (by show w.heap.size ≠ nb; omega)).trans (cell_set_ne _ (by show w.heap.size ≠ nb; omega))).trans ((hb4.cell (p := ⟨w.heap.size, 1, none⟩) hwl).trans K6.out)
              · have hmm := ((K7.out.drew.keep hb4).setElse (a := ⟨nb, 0, none⟩) (by show w.heap.size + 1 ≠ nb; omega) (fun i hi => by have := HRA.out i hi; show w.heap.size + 1 + 1 + i ≠ nb; omega) (.bool (t0 X0 X1 Y0 Y1))).setElse (a := ⟨nb, 1, none⟩) (by show w.heap.size + 1 ≠ nb; omega) (fun i hi => by have := HRA.out i hi; show w.heap.size + 1 + 1 + i ≠ nb; omega) (.bool (t1 X0 X1 Y0 Y1))
                refine hmm.congr fun i' j' _ _ => ?_
                rw [← E0.out, ← E1.out]
                exact pwc_two (G := fun i j => pw 4 one (g i) j)
        · have : j = cols := by omega
          subst this
          go_wp2
          go_roundg (n - (k + 1))
          case measure => omega
          case rel => exact ⟨k + 1, by omega, rfl, by go_num, hbel, hx0, hx1, hM.congr fun i j _ hj => pwc_row hj⟩
    · have : k = n := by omega
      subst this
      go_wp2
      go_ret2
      exact ⟨_, _, rfl, (⟨hM.top, hM.row, by omega, fun i _ => by omega, hM.inj, hM.off⟩ : Mx _ w.heap.size _ _ _ _ _ _ _ _).congr (by intro i j hi _; simp [hi, pwc]), hbel⟩
end Go.Proofs.Ytpocjpodeahanaa
