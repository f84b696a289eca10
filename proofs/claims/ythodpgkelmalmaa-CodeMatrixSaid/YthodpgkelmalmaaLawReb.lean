/- CodeRebuilds: the law's walk. Conditions: none. -/
import Derived.Test.YthodpgkelmalmaaRebC
import Derived.Test.YthodpgkelmalmaaSame
namespace Go.Proofs.Ythodpgkelmalmaa
open Go.RowKit

theorem shP_ex {q : Nat → Fin 256} {x : Fin 256} : ∀ k, (∃ i0, i0 < k ∧ q i0 = x ∧ ∀ i, i < i0 → q i ≠ x) ∨ ∀ i, i < k → q i ≠ x
  | 0 => .inr fun i hi => absurd hi (by omega)
  | k + 1 => by
    rcases shP_ex (q := q) (x := x) k with ⟨i0, h0, h1, h2⟩ | h
    · exact .inl ⟨i0, by omega, h1, h2⟩
    · by_cases e : q k = x
      · exact .inl ⟨k, by omega, e, h⟩
      · exact .inr fun i hi => by
          by_cases e2 : i = k
          · rw [e2]; exact e
          · exact h i (by omega)
theorem shares_ex (q : Nat → Fin 256) (k : Nat) (x : Fin 256) : ∃ o, gE.ShP q k x o := by
  rcases shP_ex (q := q) (x := x) k with ⟨i0, h0, h1, h2⟩ | h
  · exact ⟨fun j => if j = i0 then gE.u else gE.z, .inl ⟨i0, h0, h1, h2, fun j _ => rfl⟩⟩
  · exact ⟨fun j => gE.wD q k x j, .inr ⟨h, fun j _ => rfl⟩⟩
/-- Both say one word. -/
theorem RebW.uniq {k n : Nat} {L : Nat → Nat} {g : Nat → Nat → Nat} {len : Nat} {W W' : Nat → Nat → Fin 256} (h : RebW k n L g len W) (h' : RebW k n L g len W') {i c : Nat} (hi : i < n) (hc : c < len) : W i c = W' i c := by
  have hO : ∀ i, ∃ o, gE.ShP (fun t => el (pkA L n t)) k (el i) o := fun i => shares_ex _ _ _
  obtain ⟨O, hO⟩ := Classical.axiomOfChoice hO
  rw [h O (fun i _ => hO i) i hi c hc, h' O (fun i _ => hO i) i hi c hc]
set_option maxRecDepth 40000 in
set_option maxHeartbeats 4000000 in
theorem lawReb (K M : Int) (A : Option Addr) (nr cA : Nat) (L : Nat → Nat) (g : Nat → Nat → Nat) (At Dt : Value) (hAt : At.oneCell' = true) (hDt : Dt.oneCell' = true) (w : World)
    (hn : nr * 24 ≤ 140737488351232) (hL : ∀ i, i < nr → L i ≤ 140737488351232) (hg : ∀ i, i < nr → ∀ j, j < L i → g i j < 256) (hA : RdM w A nr L fun i j => .int .u8 (g i j)) :
    Calls Try.prog 9 #[.agg #[.int .i64 K, .int .i64 M, .slice A nr cA, At, Dt]] w fun e w' => e = .returned (.bool true) ∧ Below w.heap.size w w' := by
  have hoc := And.intro hAt hDt
  clear hoc
  have HL := Lib.hid hL; have HG := Lib.hid hg
  clear hL hg
  have hb0 : Below w.heap.size w (w.alloc (.cells #[.int .i64 K, .int .i64 M, .slice A nr cA, At, Dt] 26)) := (Below.refl _ _).alloc (Nat.le_refl _) _
  have HA0 := Lib.hid (RdM.below hA hb0)
  have HB0 := Lib.hid hb0
  clear hA hb0
  by_cases hm : may K M
  · have HMAY := Lib.hid hm
    obtain ⟨h1, h2, h3, h4⟩ := hm
    obtain ⟨k, rfl⟩ := Int.eq_ofNat_of_zero_le (show 0 ≤ K by omega)
    obtain ⟨m, rfl⟩ := Int.eq_ofNat_of_zero_le (show 0 ≤ M by omega)
    have h1' : 1 ≤ m := by omega
    have h2' : m ≤ k := by omega
    have h3' : k ≤ 254 := by omega
    have h4' : k + m ≤ 255 := by omega
    clear h1 h2 h3 h4
    go_enter Try.func9, Try.ntmps9
    go_wp2_with fail
    refine (new_ok k m _ h1' h2' h3' h4').mono ?_
    rintro e w1 ⟨p, rfl, hC, hp, hb1⟩
    have hc0 : w1.cell? ⟨w.heap.size, 0, none⟩ = some (.int .i64 (k : Int)) := by rw [hb1.cell (by simp)]; go_simp
    have hc1 : w1.cell? ⟨w.heap.size, 1, none⟩ = some (.int .i64 (m : Int)) := by rw [hb1.cell (by simp)]; go_simp
    have hc2 : w1.cell? ⟨w.heap.size, 2, none⟩ = some (.slice A nr cA) := by rw [hb1.cell (by simp)]; go_simp
    have hlt1 : w.heap.size < w1.heap.size := by have := hb1.size; simp at this; omega
    have HA1 := Lib.hid (RdM.below HA0.out hb1)
    have HB1 := Lib.hid (HB0.out.trans (hb1.mono (by simp)))
    have HC := Lib.hid hC
    clear hb1 hC HA0 HB0
    go_wp2_with fail
    refine (maybe_t _ _ _ HMAY.out).mono ?_
    rintro e w2 ⟨rfl, rfl⟩
    go_wp2_with fail
    refine (lentRows_any A nr cA L g w1 hn HL.out HA1.out).mono ?_
    rintro e w2 ⟨T, cT, S, C, rfl, hW, hb2, hcT, hCC⟩
    obtain ⟨w1', rfl⟩ : ∃ w1' : World, w1' = w1 := ⟨_, rfl⟩
    have HW := Lib.hid hW; have HB2 := Lib.hid hb2; have HCC := Lib.hid hCC
    have HK0 : Hid (∀ w', Below w1'.heap.size w1' w' → w'.cell? ⟨w.heap.size, 0, none⟩ = some (.int .i64 (k : Int)) ∧ w'.cell? ⟨w.heap.size, 1, none⟩ = some (.int .i64 (m : Int))) := fun w' hb => ⟨(hb.cell hlt1).trans hc0, (hb.cell hlt1).trans hc1⟩
    clear hW hb2 hCC hc0 hc1 hc2 HA1
    go_wp2
    go_loopg [6] 2 (fun gk v wr => ∃ (t : Nat) (g : Nat → Nat → Nat), t ≤ 2 ∧ gk = 2 - t ∧ v = .int .i64 t ∧ LentW wr w1'.heap.size (.slice (some ⟨T, 0, none⟩) (nr + 64) cT) (nr + 64) S (lnL nr L) C (lnM nr L) (lnF nr L g) ∧ (∀ i, i < nr → ∀ j, j < L i → g i j < 256) ∧ Below w1'.heap.size w1' wr)
    case atStart => exact ⟨0, g, Nat.zero_le _, rfl, rfl, HW.out, HG.out, HB2.out⟩
    case round =>
      clear HW HG HB2
      obtain ⟨t, g, ht, rfl, rfl, hW, hg, hb⟩ := hrel
      have HW := Lib.hid hW; have HG := Lib.hid hg; have HB := Lib.hid hb
      clear hW hg hb
      by_cases hlt : t < 2
      · have hRl : RdM wr (some ⟨T, 0, none⟩) nr L (fun i j => .int .u8 (g i j)) := by
          obtain ⟨SS, CC, q1, q2⟩ := HW.out.rdm (n := nr) (by omega) (fun i hi => by unfold lnL lnM; rw [if_pos hi, if_pos hi]; omega)
          exact ⟨SS, CC, q1.congr fun i hi => by unfold lnL; rw [if_pos hi], fun i hi => by
            have q := q2 i hi
            unfold lnL at q
            rw [if_pos hi] at q
            exact q.congr fun j hj => by show Value.int .u8 ((lnF nr L g i j : Nat) : Int) = Value.int .u8 ((g i j : Nat) : Int); unfold lnF mkd; rw [if_pos hi, if_pos hj]⟩
        have HRL := Lib.hid hRl
        clear hRl
        have hsz := HB.out.size
        go_wp2_with fail
        refine (copied_any (some ⟨T, 0, none⟩) nr cT L g wr hn HL.out HRL.out).mono ?_
        rintro e w3 ⟨A3, c3, rfl, hc3, hR3, hb3⟩
        have HR3 := Lib.hid hR3
        have HB3 := Lib.hid hb3
        have hk3 := HK0.out w3 (HB.out.trans (hb3.mono hsz))
        obtain ⟨hk30, hk31⟩ := hk3
        clear hR3 hb3
        go_wp2_with fail
        refine (rreb_any A3 k m nr c3 L g w3 (by omega) h4' (by omega) HL.out HG.out HR3.out).mono ?_
        rintro e w4 ⟨er, A4, R4, c4, W4, rfl, hE4, hR4, hW4, hM4, hb4⟩
        have HW4 := Lib.hid hW4; clear hW4
        have HB4 := Lib.hid (HB3.out.trans (hb4.mono HB3.out.size))
        have HR34 := Lib.hid (RdM.below HR3.out hb4)
        have HE4 := Lib.hid hE4; have HR4 := Lib.hid hR4; have HM4 := Lib.hid hM4
        clear hk30 hk31 hE4 hR4 hM4 hb4 HR3 HB3
        go_wp2_with fail
        refine (reb_any p k (k + m) (some ⟨T, 0, none⟩) nr cT L g w4 (by omega) (by omega) (by omega) (by omega) HL.out HG.out (HC.out.below (HB.out.trans (HB4.out.mono hsz))) (RdM.below HRL.out HB4.out)).mono ?_
        rintro e w5 ⟨er5, A5, R5, c5, W5, rfl, hE5, hR5, hW5, hM5, hb5⟩
        have he : er5 = er := hE5.uniq HE4.out
        subst he
        have hRR : R5 = R4 := by rw [hR5, HR4.out]
        subst hRR
        have HB5 := Lib.hid (HB4.out.trans (hb5.mono HB4.out.size))
        have HR35 := Lib.hid (RdM.below HR34.out hb5)
        have HM45 := Lib.hid (RdM.below HM4.out hb5)
        have hRs : R5 ≤ 1000 := by rw [hR5]; split <;> omega
        have HM5 : Hid (RdM w5 A5 R5 (fun _ => L (pkA L (k + m) 0)) (fun i c => .int .u8 ((W4 i c).val : Nat))) := hM5.congr fun i hi c hc => by
          have he0 : er5 = 0 := Classical.byContradiction fun h => by rw [hR5, if_neg h] at hi; omega
          have hi' : i < k + m := by rw [hR5, if_pos he0] at hi; exact hi
          show Value.int .u8 ((W5 i c).val : Int) = Value.int .u8 ((W4 i c).val : Int)
          rw [(hW5 he0).uniq (HW4.out he0) hi' hc]
        clear hW5 HW4
        clear hE5 hR5 hM5 hb5 HE4 HR4 HM4 HR34 HB4
        go_wp2_with fail
        refine (same_any A5 A4 R5 c5 c4 (fun _ => L (pkA L (k + m) 0)) (fun i c => (W4 i c).val) w5 (by omega) (fun _ _ _ _ => (W4 _ _).isLt) HM5.out HM45.out).mono ?_
        rintro e w6 ⟨rfl, hd6⟩
        have HB6 := Lib.hid (HB5.out.trans ((hd6.below _).mono HB5.out.size))
        have HR36 := Lib.hid (RdM.below HR35.out (hd6.below _))
        clear hd6 HB5 HR35 HM5 HM45
        go_wp2_with fail
        refine (kept_any T cT A3 nr c3 w1'.heap.size S L C g w6 (by omega) (fun i hi => by have := HL.out i hi; omega) HG.out hcT HCC.out (HW.out.kept HB6.out) HR36.out).mono ?_
        rintro e w7 ⟨rfl, hd7⟩
        have HB7 := Lib.hid (HB6.out.trans ((hd7.below _).mono HB6.out.size))
        clear hd7 HB6 HR36
        go_wp2_with fail
        refine (turned_any T cT nr w1'.heap.size S L C g w7 (by omega) (fun i hi => by have := HL.out i hi; omega) HG.out (HW.out.kept HB7.out)).mono ?_
        rintro e w8 ⟨rfl, hW8, hb8⟩
        have HB8 := Lib.hid ((HB.out.trans (HB7.out.mono hsz)).trans hb8)
        have HW8 := Lib.hid hW8
        clear hW8 hb8 HB7
        go_wp2
        go_roundg (2 - (t + 1))
        case measure => omega
        case rel => exact ⟨t + 1, _, by omega, rfl, by go_num, HW8.out, fun i hi j hj => by unfold trn; omega, HB8.out⟩
      · have HBF := Lib.hid (HB1.out.trans (HB.out.mono (Nat.le_of_lt hlt1)))
        clear HB HW HG
        go_wp2
        go_ret
        exact ⟨rfl, HBF.out⟩
  · have HMAY := Lib.hid hm; clear hm
    go_enter Try.func9, Try.ntmps9
    go_wp2_with fail
    refine (new_bad K M _ HMAY.out).mono ?_
    rintro e w1 ⟨rfl, rfl⟩
    go_wp2_with fail
    refine (maybe_f K M _ HMAY.out).mono ?_
    rintro e w1 ⟨rfl, rfl⟩
    go_wp2
    go_ret
    exact ⟨rfl, HB0.out⟩
end Go.Proofs.Ythodpgkelmalmaa
