/- turned, with what it leaves as it is. Conditions: bytes. -/
import Derived.Test.YthodpgkelmalmaaSame
namespace Go.Proofs.Ythodpgkelmalmaa
open Go.RowKit

set_option maxRecDepth 20000 in
set_option maxHeartbeats 1000000 in
theorem turned_k (T cT n B0 : Nat) (S L C : Nat → Nat) (g : Nat → Nat → Nat) (w : World) (hn : n ≤ 1000000000000000) (hL : ∀ i, i < n → L i ≤ 1000000000000000) (hg : ∀ i, i < n → ∀ j, j < L i → g i j < 256)
    (h1 : LentW w B0 (.slice (some ⟨T, 0, none⟩) (n + 64) cT) (n + 64) S (lnL n L) C (lnM n L) (lnF n L g)) :
    Calls Try.prog 23 #[.slice (some ⟨T, 0, none⟩) n cT] w fun e w' => e = .returned (.tuple #[]) ∧ LentW w' B0 (.slice (some ⟨T, 0, none⟩) (n + 64) cT) (n + 64) S (lnL n L) C (lnM n L) (lnF n L (fun i j => trn i (g i j))) ∧ Below B0 w w' ∧ (∀ b, (∀ i, i < n → b ≠ S i) → w'.heap[b]? = w.heap[b]?) := by
  have H1 : Hid (LentW w B0 (.slice (some ⟨T, 0, none⟩) (n + 64) cT) (n + 64) S (lnL n L) C (lnM n L) (trF n L g 0 0)) := by
    have e : trF n L g 0 0 = lnF n L g := by funext a b; unfold trF; rw [if_neg (by omega)]
    rw [e]; exact h1
  have HL := Lib.hid hL; have HG := Lib.hid hg
  clear h1 hL hg
  go_enter Try.func23, Try.ntmps23
  go_wp2
  go_loopg [2] n (fun gk i wr => ∃ k : Nat, k ≤ n ∧ gk = n - k ∧ i = .int .i64 k ∧ LentW wr B0 (.slice (some ⟨T, 0, none⟩) (n + 64) cT) (n + 64) S (lnL n L) C (lnM n L) (trF n L g k 0) ∧ Below B0 w wr ∧ (∀ b, (∀ i, i < n → b ≠ S i) → wr.heap[b]? = w.heap[b]?))
  case atStart => exact ⟨0, Nat.zero_le _, rfl, rfl, H1.out, Below.refl _ _, fun _ _ => rfl⟩
  case round =>
    clear H1
    obtain ⟨k, hk, rfl, rfl, hW, hb, hkp⟩ := hrel
    have HKP := Lib.hid hkp
    clear hkp
    by_cases hlt : k < n
    · have HW := Lib.hid hW; have HB := Lib.hid hb
      clear hW hb
      go_wp2
      go_loopg [3] (L k) (fun gk i wr => ∃ j : Nat, j ≤ L k ∧ gk = L k - j ∧ i = .int .i64 j ∧ LentW wr B0 (.slice (some ⟨T, 0, none⟩) (n + 64) cT) (n + 64) S (lnL n L) C (lnM n L) (trF n L g k j) ∧ Below B0 w wr ∧ (∀ b, (∀ i, i < n → b ≠ S i) → wr.heap[b]? = w.heap[b]?))
      case atStart => exact ⟨0, Nat.zero_le _, rfl, rfl, HW.out, HB.out, HKP.out⟩
      case round =>
        clear HW HB
        clear HKP
        obtain ⟨j, hj, rfl, rfl, hW, hb, hkp⟩ := hrel
        have HKP := Lib.hid hkp
        clear hkp
        have hLk := HL.out k hlt
        have hy1 : wr.cell? ⟨T, k, none⟩ = some (.slice (some ⟨S k, 0, none⟩) (L k) (C k)) := by
          rw [hW.top.cell1 (by omega)]; unfold lnL; rw [if_pos hlt]
        by_cases hlj : j < L k
        · have hM : j < lnM n L k := by unfold lnM; rw [if_pos hlt]; omega
          have hy2 := (hW.row k (by omega)).cell1 hM
          have e0 : trF n L g k j k j = g k j := by unfold trF; rw [if_neg (by omega), lnF_row hlt]; unfold mkd; rw [if_pos hlj]
          rw [e0] at hy2
          obtain ⟨_, _, e3, hSB, _, _, hfz⟩ := (hW.row k (by omega)).form (by omega)
          injection e3 with e3 _ _
          injection e3 with e3
          injection e3 with e3 _ _
          subst e3
          have hfj := hfz j
          have hgk := HG.out k hlt j hlj
          have HW2 := Lib.hid (hW.set (i := k) (j := j) (x := trn k (g k j)) (by omega) hM)
          have HB2 := Lib.hid (hb.setCell (p := ⟨S k, j, none⟩) hSB (.int .u8 (trn k (g k j) : Nat)))
          have HF : Hid ((fun a b => if a = k ∧ b = j then trn k (g k j) else trF n L g k j a b) = trF n L g k (j + 1)) := by
            funext a b
            unfold trF
            by_cases e : a = k ∧ b = j
            · obtain ⟨rfl, rfl⟩ := e
              rw [if_pos ⟨rfl, rfl⟩, if_pos ⟨hlt, hlj, .inr ⟨rfl, by omega⟩⟩]
            · rw [if_neg e]
              by_cases e2 : a < n ∧ b < L a ∧ (a < k ∨ a = k ∧ b < j)
              · rw [if_pos e2, if_pos (by omega)]
              · rw [if_neg e2, if_neg (by omega)]
          rw [HF.out] at HW2
          generalize hgx : g k j = x at *
          have HGX := Lib.hid hgx; clear hgx
          have KS : Hid (wr.cell? ⟨T, k, none⟩ = some (.slice (some ⟨S k, 0, none⟩) (L k) (C k)) ∧ wr.cell? ⟨S k, j, none⟩ = some (.int .u8 (x : Nat))) := ⟨hy1, hy2⟩
          clear hfz e0 hW hb
          go_wp2_with fail
          clear hy1 hy2
          refine wp_region_mix [(true, true, false), (true, true, false), (true, true, false), (true, true, true), (true, true, false), (true, true, false), (true, true, false), (true, true, false), (true, true, true), (true, true, false), (true, true, false), (true, true, true), (true, true, false), (true, true, false), (true, true, false), (true, true, false), (true, true, false), (true, true, false), (false, false, true)] mixed (by kernel_rfl) (fun w4 => w4.cell? ⟨T, k, none⟩ = some (.slice (some ⟨S k, 0, none⟩) (L k) (C k)) ∧ w4.cell? ⟨S k, j, none⟩ = some (.int .u8 (x : Nat))) (KS.out) ?_
          intro hSw0
          simp only [hdM, tlM, List.cons_append, List.nil_append]
          repeat (first
            | (refine mix_look hSw0.out ?_ (by rfl) (fun w4 hSw => ?_) ?_; rotate_left; (focus (obtain ⟨s1, s2⟩ := hSw; go_simp; try with_reducible rfl)); simp only [Act.put, List.setIfInBounds_toArray, List.set_cons_zero, List.set_cons_succ])
            | (refine mix_pure ?_ (by rfl) (fun w4 => ?_) ?_; rotate_left; (focus (go_simp; try with_reducible rfl)); simp only [Act.put, List.setIfInBounds_toArray, List.set_cons_zero, List.set_cons_succ]))
          have hy5 := KS.out.2
          refine mix_step (fun K hK => ?_)
          go_simp
          refine hK.out _ _ (fun h => absurd h (by decide)) ?_
          clear hK K
          try simp only [Act.put, List.setIfInBounds_toArray, List.set_cons_zero, List.set_cons_succ]
          refine mix_nil ?_
          clear hy5
          go_wp2
          have HE : Hid ((((x : Int) * 5 % 256 + ((k : Int) + 1) % 256) % 256) = ((trn k x : Nat) : Int)) := by show _ = _; unfold trn; omega
          rw [← HE.out] at HW2 HB2
          go_roundg (L k - (j + 1))
          case measure => omega
          case rel => exact ⟨j + 1, by omega, rfl, by go_num, HW2.out.kept (Below.refl _ _).drew, HB2.out.drew, fun b hb => (Below.heap_setCell _ _ _ _ (hb k hlt)).trans (HKP.out b hb)⟩
        · have hjL : j = L k := by omega
          subst hjL
          have HF : Hid (trF n L g k (L k) = trF n L g (k + 1) 0) := by
            funext a b
            unfold trF
            by_cases e2 : a < n ∧ b < L a ∧ (a < k ∨ a = k ∧ b < L k)
            · rw [if_pos e2, if_pos (by omega)]
            · rw [if_neg e2, if_neg (by
                rintro ⟨h1, h2, h3⟩
                refine e2 ⟨h1, h2, ?_⟩
                by_cases e : a = k
                · subst e; exact .inr ⟨rfl, h2⟩
                · exact .inl (by omega))]
          rw [HF.out] at hW
          have HW := Lib.hid hW; have HB := Lib.hid hb
          clear hW hb
          go_wp2
          go_roundg (n - (k + 1))
          case measure => omega
          case rel => exact ⟨k + 1, by omega, rfl, by go_num, HW.out, HB.out, HKP.out⟩
    · have hkn : k = n := by omega
      subst k
      have e : trF n L g n 0 = lnF n L (fun i j => trn i (g i j)) := by
        funext a b
        unfold trF lnF mkd
        by_cases h1 : a < n
        · by_cases h2 : b < L a
          · rw [if_pos ⟨h1, h2, .inl h1⟩, if_pos h1, if_pos h2]
          · rw [if_neg (by omega), if_pos h1, if_pos h1, if_neg h2, if_neg h2]
        · rw [if_neg (by omega), if_neg h1, if_neg h1]
      rw [e] at hW
      have HW := Lib.hid hW; have HB := Lib.hid hb
      clear hW hb e
      go_wp2
      go_end0
      exact ⟨rfl, HW.out, HB.out, HKP.out⟩
theorem Own.of_block {w w' : World} {B e sz g n c : Nat} {f : Nat → List Value} (h : Own w B e sz (.slice (some ⟨g, 0, none⟩) n c) n f) (hb : w'.heap[g]? = w.heap[g]?) : Own w' B e sz (.slice (some ⟨g, 0, none⟩) n c) n f := by
  obtain ⟨h1, h2⟩ := h
  refine ⟨h1, ?_⟩
  rcases h2 with ⟨h2, h3⟩ | ⟨g', cap, cur, hv, hg, hh, r⟩
  · exact .inl ⟨h2, h3⟩
  · right
    refine ⟨g', cap, cur, hv, hg, ?_, r⟩
    injection hv with hv _ _
    injection hv with hv
    injection hv with hv _ _
    subst hv
    rw [hb]; exact hh
theorem LentW.setElse {w : World} {B : Nat} {v : Value} {N : Nat} {S L C M : Nat → Nat} {f : Nat → Nat → Nat} (h : LentW w B v N S L C M f) {a : Addr} (ht : v.ownBlock ≠ some a.block) (hs : ∀ i, i < N → S i ≠ a.block) (u : Value) : LentW (w.setCell a u) B v N S L C M f :=
  ⟨h.top.setOther ht u, fun i hi => (h.row i hi).setOther (fun e => hs i hi (by simpa [Value.ownBlock] using e)) u, h.inj⟩
end Go.Proofs.Ythodpgkelmalmaa
