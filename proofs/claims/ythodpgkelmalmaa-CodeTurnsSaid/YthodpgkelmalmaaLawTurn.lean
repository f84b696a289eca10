/- CodeTurns: the law's walk. Conditions: none. -/
import Derived.Test.YthodpgkelmalmaaTurn4
import Derived.Test.YthodpgkelmalmaaTurned
namespace Go.Proofs.Ythodpgkelmalmaa
open Go.RowKit

theorem tuE_zero {n k nr nd : Nat} {L : Nat → Nat} {a : Int} (h : tuE n k nr L a nd = 0) : nr = n ∧ (∀ i, i < n → L i = L 0) ∧ nd = L 0 ∧ a.toNat < k := by
  unfold tuE at h
  by_cases h1 : nr = n
  · rw [if_pos h1] at h
    cases h2 : evB n L (L 0)
    · rw [h2] at h; simp at h
    · rw [h2] at h
      rw [if_pos rfl] at h
      by_cases h3 : a < 0 ∨ (k : Int) ≤ a
      · rw [if_pos h3] at h; omega
      · rw [if_neg h3] at h
        by_cases h4 : nd = L 0
        · exact ⟨h1, evB_iff.1 h2, h4, by omega⟩
        · rw [if_neg h4] at h; omega
  · rw [if_neg h1] at h; omega
theorem tw_lt {n k a len : Nat} {g : Nat → Nat → Nat} {d : Nat → Nat} {i c : Nat} (hi : i < n) (hc : c < len) (hg : ∀ i, i < n → ∀ c, c < len → g i c < 256) (hd : ∀ c, c < len → d c < 256) : tw k a g d i c < 256 := by
  unfold tw
  split
  · exact hd c hc
  · split
    · exact hg i hi c hc
    · exact Fin.isLt _
/-- The data while it is being written over. -/
def dup (nd : Nat) (d : Nat → Nat) (k j : Nat) : Nat := if j < nd then (if j < k then (d j + 9) % 256 else d j) else 201 + (j - nd) % 7
set_option maxRecDepth 40000 in
set_option maxHeartbeats 4000000 in
theorem lawTurn (K M : Int) (A : Option Addr) (nr cA : Nat) (L : Nat → Nat) (g : Nat → Nat → Nat) (At : Int) (D : Option Addr) (nd cD : Nat) (d : Nat → Nat) (w : World)
    (hn : nr * 24 ≤ 140737488351232) (hL : ∀ i, i < nr → L i ≤ 140737488351232) (hg : ∀ i, i < nr → ∀ j, j < L i → g i j < 256) (hA : RdM w A nr L fun i j => .int .u8 (g i j)) (hnd : nd ≤ 140737488351232) (hd : ∀ j, j < nd → d j < 256) (hD : Rd w D nd fun j => .int .u8 (d j : Nat)) :
    Calls Try.prog 6 #[.agg #[.int .i64 K, .int .i64 M, .slice A nr cA, .int .i64 At, .slice D nd cD]] w fun e w' => e = .returned (.bool true) ∧ Below w.heap.size w w' := by
  have HL := Lib.hid hL; have HG := Lib.hid hg; have HDD := Lib.hid hd
  clear hL hg hd
  have hb0 : Below w.heap.size w (w.alloc (.cells #[.int .i64 K, .int .i64 M, .slice A nr cA, .int .i64 At, .slice D nd cD] 26)) := (Below.refl _ _).alloc (Nat.le_refl _) _
  have HA0 := Lib.hid (RdM.below hA hb0)
  have HD0 := Lib.hid (hD.below hb0)
  have HB0 := Lib.hid hb0
  clear hA hb0 hD
  by_cases hm : may K M
  · have HMAY := Lib.hid hm
    obtain ⟨h1, h2, h3, h4⟩ := hm
    obtain ⟨k, rfl⟩ := Int.eq_ofNat_of_zero_le (show 0 ≤ K by omega)
    obtain ⟨m, rfl⟩ := Int.eq_ofNat_of_zero_le (show 0 ≤ M by omega)
    have h1' : 1 ≤ m := by omega
    have h2' : m ≤ k := by omega
    have h3' : k ≤ 254 := by omega
    have h4' : k + m ≤ 255 := by omega
    clear h1 h2 h3 h4
    go_enter Try.func6, Try.ntmps6
    go_wp2_with fail
    refine (new_ok k m _ h1' h2' h3' h4').mono ?_
    rintro e w1 ⟨p, rfl, hC, hp, hb1⟩
    have hc0 : w1.cell? ⟨w.heap.size, 0, none⟩ = some (.int .i64 (k : Int)) := by rw [hb1.cell (by simp)]; go_simp
    have hc1 : w1.cell? ⟨w.heap.size, 1, none⟩ = some (.int .i64 (m : Int)) := by rw [hb1.cell (by simp)]; go_simp
    have hc2 : w1.cell? ⟨w.heap.size, 2, none⟩ = some (.slice A nr cA) := by rw [hb1.cell (by simp)]; go_simp
    have hc3 : w1.cell? ⟨w.heap.size, 3, none⟩ = some (.int .i64 At) := by rw [hb1.cell (by simp)]; go_simp
    have hc4 : w1.cell? ⟨w.heap.size, 4, none⟩ = some (.slice D nd cD) := by rw [hb1.cell (by simp)]; go_simp
    have hlt1 : w.heap.size < w1.heap.size := by have := hb1.size; simp at this; omega
    have HA1 := Lib.hid (RdM.below HA0.out hb1)
    have HD1 := Lib.hid (HD0.out.below hb1)
    have HB1 := Lib.hid (HB0.out.trans (hb1.mono (by simp)))
    have HC := Lib.hid hC
    clear hb1 hC HA0 HB0 HD0
    go_wp2_with fail
    refine (maybe_t _ _ _ HMAY.out).mono ?_
    rintro e w2 ⟨rfl, rfl⟩
    go_wp2_with fail
    refine (lentRows_any A nr cA L g w1 hn HL.out HA1.out).mono ?_
    rintro e w2 ⟨T, cT, S, C, rfl, hW, hb2, hcT, hCC⟩
    obtain ⟨w1', rfl⟩ : ∃ w1' : World, w1' = w1 := ⟨_, rfl⟩
    have hd4 : w2.cell? ⟨w.heap.size, 4, none⟩ = some (.slice D nd cD) := (hb2.cell hlt1).trans hc4
    have HW := Lib.hid hW; have HB2 := Lib.hid hb2; have HCC := Lib.hid hCC
    have HK0 : Hid (∀ w', Below w1'.heap.size w1' w' → w'.cell? ⟨w.heap.size, 0, none⟩ = some (.int .i64 (k : Int)) ∧ w'.cell? ⟨w.heap.size, 1, none⟩ = some (.int .i64 (m : Int)) ∧ w'.cell? ⟨w.heap.size, 3, none⟩ = some (.int .i64 At)) := fun w' hb => ⟨(hb.cell hlt1).trans hc0, (hb.cell hlt1).trans hc1, (hb.cell hlt1).trans hc3⟩
    have HTL : Hid (T < w2.heap.size) := (hW.top.lt T rfl).2
    have HSL : Hid (∀ i, i < nr + 64 → S i < w2.heap.size) := fun i hi => hW.lt i hi
    have HD2 := Lib.hid (HD1.out.below hb2)
    clear hW hb2 hCC hc0 hc1 hc2 hc3 hc4 HA1 HD1
    go_wp2_with fail
    refine (lent_any D nd cD d w2 hnd HD2.out).mono ?_
    rintro e w3 ⟨SD, CD, rfl, hOD, hb3, hSD, hCD⟩
    have HW3 := Lib.hid (HW.out.kept hb3)
    have HB3 := Lib.hid (HB2.out.trans (hb3.mono HB2.out.size))
    have hODD : Own w3 w2.heap.size 5 1 (.slice (some ⟨SD, 0, none⟩) (nd + 64) CD) (nd + 64) (fun j => [.int .u8 (mkd nd d j : Nat)]) := hOD
    have HOD := Lib.hid hODD
    clear hOD hODD hb3 hd4 HW HB2 HD2
    go_wp2
    go_loopg [7] 2 (fun gk v wr => ∃ (t : Nat) (g : Nat → Nat → Nat) (d : Nat → Nat), t ≤ 2 ∧ gk = 2 - t ∧ v = .int .i64 t ∧ LentW wr w1'.heap.size (.slice (some ⟨T, 0, none⟩) (nr + 64) cT) (nr + 64) S (lnL nr L) C (lnM nr L) (lnF nr L g) ∧ (∀ i, i < nr → ∀ j, j < L i → g i j < 256) ∧ (∀ j, j < nd → d j < 256) ∧ Own wr w2.heap.size 5 1 (.slice (some ⟨SD, 0, none⟩) (nd + 64) CD) (nd + 64) (fun j => [.int .u8 (mkd nd d j : Nat)]) ∧ Below w1'.heap.size w1' wr)
    case atStart => exact ⟨0, g, d, Nat.zero_le _, rfl, rfl, HW3.out, HG.out, HDD.out, HOD.out, HB3.out⟩
    case round =>
      clear HW3 HG HDD HOD HB3
      obtain ⟨t, g, d, ht, rfl, rfl, hW, hg, hdd, hO, hb⟩ := hrel
      have HW := Lib.hid hW; have HG := Lib.hid hg; have HDD := Lib.hid hdd; have HO := Lib.hid hO; have HB := Lib.hid hb
      clear hW hg hdd hO hb
      by_cases hlt : t < 2
      · have hRl : RdM wr (some ⟨T, 0, none⟩) nr L (fun i j => .int .u8 (g i j)) := by
          obtain ⟨SS, CC, q1, q2⟩ := HW.out.rdm (n := nr) (by omega) (fun i hi => by unfold lnL lnM; rw [if_pos hi, if_pos hi]; omega)
          exact ⟨SS, CC, q1.congr fun i hi => by unfold lnL; rw [if_pos hi], fun i hi => by
            have q := q2 i hi
            unfold lnL at q
            rw [if_pos hi] at q
            exact q.congr fun j hj => by show Value.int .u8 ((lnF nr L g i j : Nat) : Int) = Value.int .u8 ((g i j : Nat) : Int); unfold lnF mkd; rw [if_pos hi, if_pos hj]⟩
        have HRL := Lib.hid hRl
        have hRd : Rd wr (some ⟨SD, 0, none⟩) nd (fun j => .int .u8 (d j : Nat)) := fun j hj => ⟨SD, 0, rfl, (HO.out.lt SD rfl).2, by rw [Nat.zero_add, HO.out.cell1 (by omega)]; unfold mkd; rw [if_pos hj]⟩
        have HRD := Lib.hid hRd
        clear hRl hRd
        have hsz := HB.out.size
        go_wp2_with fail
        refine (copied_any (some ⟨T, 0, none⟩) nr cT L g wr hn HL.out HRL.out).mono ?_
        rintro e w3 ⟨A3, c3, rfl, hc3, hR3, hb3⟩
        have HR3 := Lib.hid hR3
        have HB3 := Lib.hid hb3
        have hrd3 := HRD.out.below hb3
        clear hR3 hb3
        go_wp2_with (at_builtin; refine wpList_appendRd rfl (.const (.slice none 0 0)) (.tmp 45) 24 rfl w3.heap.size 5 1 (.int .u8 0) Try.underlying24 byteInfo rfl rfl (Nat.le_refl _) (some ⟨SD, 0, none⟩) nd CD (fun j => .int .u8 (d j : Nat)) rfl hrd3 (fun _ _ => rfl) (by omega) (by omega) ?_)
        intro vd w4 hOd hb4
        obtain ⟨Ad, cd, rfl, _, _, hRd4, _⟩ := hOd.rd
        have HRd4 := Lib.hid hRd4
        have HB4 := Lib.hid (HB3.out.trans (hb4.mono HB3.out.size))
        have HR34 := Lib.hid (RdM.below HR3.out hb4)
        obtain ⟨hk0, hk1, hk3⟩ := HK0.out w4 (HB.out.trans (HB4.out.mono hsz))
        clear hrd3 hOd hb4 hRd4 HB3 HR3
        go_wp2_with fail
        refine (rturn_any A3 Ad k m nr c3 nd cd At L g d w4 (by omega) h4' (by omega) HL.out HG.out HDD.out HR34.out HRd4.out).mono ?_
        rintro e w5 ⟨er, A5, R5, c5, rfl, hE5, hR5, hM5, hb5⟩
        have HB5 := Lib.hid (HB4.out.trans (hb5.mono HB4.out.size))
        have HR35 := Lib.hid (RdM.below HR34.out hb5)
        have HRd5 := Lib.hid (HRd4.out.below hb5)
        have HE5 := Lib.hid hE5; have HR5 := Lib.hid hR5; have HM5 := Lib.hid hM5
        obtain ⟨_, _, hk3⟩ := HK0.out w5 (HB.out.trans (HB5.out.mono hsz))
        clear hE5 hR5 hM5 hb5 HR34 HB4 HRd4 hk0 hk1
        go_wp2_with fail
        refine (pturn_any p (some ⟨T, 0, none⟩) (some ⟨SD, 0, none⟩) k (k + m) nr cT nd CD At L g d w5 (by omega) (by omega) (by omega) (HC.out.below (HB.out.trans (HB5.out.mono hsz))) (by omega) HL.out HG.out HDD.out (RdM.below HRL.out HB5.out) (HRD.out.below HB5.out)).mono ?_
        rintro e w6 ⟨er6, A6, R6, c6, rfl, hE6, hR6, hM6, hb6⟩
        have he : er6 = er := by rw [hE6, HE5.out]
        subst he
        have hRR : R5 = R6 := by rw [hR6, HR5.out]
        subst hRR
        have HB6 := Lib.hid (HB5.out.trans (hb6.mono HB5.out.size))
        have HR36 := Lib.hid (RdM.below HR35.out hb6)
        have HRd6 := Lib.hid (HRd5.out.below hb6)
        have HM56 := Lib.hid (RdM.below HM5.out hb6)
        have HM6 := Lib.hid hM6
        have hRs : R5 ≤ 1000 := by rw [hR6]; split <;> omega
        have HTW : Hid (∀ i, i < R5 → ∀ c, c < L 0 → tw k At.toNat g d i c < 256) := fun i hi c hc => by
          by_cases e : er6 = 0
          · obtain ⟨q1, q2, q3, q4⟩ := tuE_zero (hE6.symm.trans e)
            rw [if_pos e] at hR6
            exact tw_lt (n := k + m) (len := L 0) (by omega) hc (fun i hi c hc => HG.out i (by omega) c (by rw [q2 i hi]; exact hc)) (fun c hc => HDD.out c (by omega))
          · rw [if_neg e] at hR6; omega
        clear hE6 hR6 hM6 hb6 HE5 HR5 HM5 HR35 HB5 HRd5 hk3
        go_wp2_with fail
        refine (same_any A6 A5 R5 c6 c5 (fun _ => L 0) (fun i c => tw k At.toNat g d i c) w6 (by omega) HTW.out HM6.out HM56.out).mono ?_
        rintro e w7 ⟨rfl, hd7⟩
        have HB7 := Lib.hid (HB6.out.trans ((hd7.below _).mono HB6.out.size))
        have HR37 := Lib.hid (RdM.below HR36.out (hd7.below _))
        have HRd7 := Lib.hid (HRd6.out.below (hd7.below _))
        clear hd7 HB6 HR36 HM6 HM56 HRd6 HTW
        go_wp2_with fail
        refine (kept_any T cT A3 nr c3 w1'.heap.size S L C g w7 (by omega) (fun i hi => by have := HL.out i hi; omega) HG.out hcT HCC.out (HW.out.kept HB7.out) HR37.out).mono ?_
        rintro e w8 ⟨rfl, hd8⟩
        have HB8 := Lib.hid (HB7.out.trans ((hd8.below _).mono HB7.out.size))
        have HRd8 := Lib.hid (HRd7.out.below (hd8.below _))
        clear hd8 HB7 HR37 HRd7
        go_wp2_with fail
        refine (unmarked_any SD CD Ad nd cd w2.heap.size d w8 (by omega) HDD.out hCD (HO.out.kept HB8.out) HRd8.out).mono ?_
        rintro e w8' ⟨rfl, rfl⟩
        clear HRd8
        go_wp2_with fail
        refine (turned_k T cT nr w1'.heap.size S L C g w8' (by omega) (fun i hi => by have := HL.out i hi; omega) HG.out (HW.out.kept HB8.out)).mono ?_
        rintro e w9 ⟨rfl, hW9, hb9, hk9⟩
        have HW9 := Lib.hid hW9
        have HB9 := Lib.hid ((HB.out.trans (HB8.out.mono hsz)).trans hb9)
        have hO9 : Own w9 w2.heap.size 5 1 (.slice (some ⟨SD, 0, none⟩) (nd + 64) CD) (nd + 64) (fun j => [.int .u8 (dup nd d 0 j : Nat)]) := ((HO.out.kept HB8.out).of_block (hk9 SD fun i hi e => by have := HSL.out i (by omega); omega)).congr fun j _ => by
          unfold dup mkd
          by_cases e : j < nd <;> simp [e]
        have HO9 := Lib.hid hO9
        clear hW9 hb9 hk9 hO9 HW HB HB8 HO HRL HRD
        go_wp2
        go_loopg [14] nd (fun gk v wr => ∃ j : Nat, j ≤ nd ∧ gk = nd - j ∧ v = .int .i64 j ∧ LentW wr w1'.heap.size (.slice (some ⟨T, 0, none⟩) (nr + 64) cT) (nr + 64) S (lnL nr L) C (lnM nr L) (lnF nr L (fun i j => trn i (g i j))) ∧ Own wr w2.heap.size 5 1 (.slice (some ⟨SD, 0, none⟩) (nd + 64) CD) (nd + 64) (fun q => [.int .u8 (dup nd d j q : Nat)]) ∧ Below w1'.heap.size w1' wr)
        case atStart => exact ⟨0, Nat.zero_le _, rfl, rfl, HW9.out, HO9.out, HB9.out⟩
        case round =>
          clear HW9 HO9 HB9
          obtain ⟨j, hj, rfl, rfl, hW, hO, hb⟩ := hrel
          by_cases hlj : j < nd
          · have hcl := hO.cell1 (i := j) (by omega)
            have e0 : dup nd d j j = d j := by unfold dup; rw [if_pos hlj, if_neg (Nat.lt_irrefl j)]
            rw [e0] at hcl
            obtain ⟨_, _, e3, _, _, _, hfz⟩ := hO.form (by omega)
            injection e3 with e3 _ e4
            injection e3 with e3
            injection e3 with e3 _ _
            subst e3 e4
            have hfj := hfz j
            have hdl := HDD.out j hlj
            have hSDw : w1'.heap.size ≤ SD := by have := HSL.out 0 (by omega); have h2 := (hW.row 0 (by omega)).lt (S 0) rfl; omega
            have HO2 := Lib.hid ((hO.set1 (i := j) (by omega) (.int .u8 ((d j + 9) % 256 : Nat))).congr (g := fun q => [.int .u8 (dup nd d (j + 1) q : Nat)]) fun q _ => by
              unfold dup
              by_cases e : q = j
              · subst e; rw [if_pos rfl, if_pos hlj, if_pos (by omega)]
              · rw [if_neg e]
                by_cases e2 : q < nd
                · rw [if_pos e2, if_pos e2]
                  by_cases e3 : q < j
                  · rw [if_pos e3, if_pos (by omega)]
                  · rw [if_neg e3, if_neg (by omega)]
                · rw [if_neg e2, if_neg e2])
            have HW2 := Lib.hid (hW.setElse (a := ⟨SD, j, none⟩) (fun e => by have h1 := HTL.out; injection e with e; have e : T = SD := e; omega) (fun i hi e => by have := HSL.out i hi; have e : S i = SD := e; omega) (.int .u8 ((d j + 9) % 256 : Nat)))
            have HB2 := Lib.hid (hb.setCell (p := ⟨SD, j, none⟩) hSDw (.int .u8 ((d j + 9) % 256 : Nat)))
            have HE : Hid (((d j : Int) + 9) % 256 = (((d j + 9) % 256 : Nat) : Int)) := by show _ = _; omega
            rw [← HE.out] at HO2 HW2 HB2
            clear hfz hO hW hb e0
            go_wp2
            go_roundg (nd - (j + 1))
            case measure => omega
            case rel => exact ⟨j + 1, by omega, rfl, by go_num, HW2.out, HO2.out, HB2.out⟩
          · have hjn : j = nd := by omega
            subst j
            have HWn := Lib.hid hW; have HOn := Lib.hid hO; have HBn := Lib.hid hb
            clear hW hO hb
            go_wp2
            go_roundg (2 - (t + 1))
            case measure => omega
            case rel => exact ⟨t + 1, _, fun j => (d j + 9) % 256, by omega, rfl, by go_num, HWn.out, fun i hi j hj => by unfold trn; omega, fun j hj => Nat.mod_lt _ (by decide), HOn.out.congr fun j _ => by
              unfold dup mkd
              by_cases e : j < nd
              · rw [if_pos e, if_pos e, if_pos e]
              · rw [if_neg e, if_neg e], HBn.out⟩
      · have HBF := Lib.hid (HB1.out.trans (HB.out.mono (Nat.le_of_lt hlt1)))
        clear HB HW HG HO
        go_wp2
        go_ret
        exact ⟨rfl, HBF.out⟩
  · have HMAY := Lib.hid hm; clear hm
    go_enter Try.func6, Try.ntmps6
    go_wp2_with fail
    refine (new_bad K M _ HMAY.out).mono ?_
    rintro e w1 ⟨rfl, rfl⟩
    go_wp2_with fail
    refine (maybe_f K M _ HMAY.out).mono ?_
    rintro e w1 ⟨rfl, rfl⟩
    go_wp2
    go_ret
    exact ⟨rfl, HB0.out⟩
end Go.Proofs.Ythodpgkelmalmaa
