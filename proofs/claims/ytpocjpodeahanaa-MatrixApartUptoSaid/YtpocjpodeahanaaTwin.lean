/- twin and Rank over the three fields: the walks. Conditions: lengths that memory bears. -/
import Derived.Test.YtpocjpodeahanaaClF
import Derived.Test.YtpocjpodeahanaaClB
import Derived.Test.YtpocjpodeahanaaTim1
namespace Go.Proofs.Ytpocjpodeahanaa
open Go.RowKit

theorem two_cF (f : Nat → Fin 4) (j : Nat) : two (fun j => .bool (f0 (f j).val)) (fun j => .bool (f1 (f j).val)) j = cF f j := by
  unfold two cF pcell
  by_cases h : j % 2 = 0 <;> simp [h]
theorem szE : (Try.prog.info? 34).map (·.size) = some 1 := by kernel_rfl
set_option maxRecDepth 20000 in
set_option maxHeartbeats 1000000 in
theorem twinE_any (A : Option Addr) (n c : Nat) (L : Nat → Nat) (G : Nat → Nat → Fin 256) (w : World) (hf : faultE n L = 0) (hA : ME w A n L (fun i j => (G i j).val)) :
    Calls Try.prog 93 #[.slice A n c] w fun e w' => ∃ b S, e = .returned (.slice (some ⟨b, 0, none⟩) n n) ∧ Mx w' w.heap.size b 62 34 n S (colsN n L) (colsN n L) (fun i j => vE (G i j)) ∧ Below w.heap.size w w' := by
  obtain ⟨hn, -, -⟩ := faultE_ok hf
  have hC := colsN_le hf
  have CC := Lib.hid (columnsE_any A n c L w hA.top)
  obtain ⟨SA, KA, hA1, hA2⟩ := RdM.len hA (fun i hi => colsN_len hf i hi)
  clear hf hA
  generalize colsN n L = C at *
  go_enter Try.func93, Try.ntmps93
  go_wp2_with fail
  refine CC.out.mono ?_
  rintro e w1 ⟨rfl, rfl⟩
  clear CC
  go_wp2_with (go_at_call 79; (with_reducible refine (zerosE n C _ (by omega) (by omega)).mono ?_); rintro e w1 ⟨rfl, hM, hbel⟩)
  go_loopg [4, 12] n (fun gk _ i wr => ∃ k : Nat, k ≤ n ∧ gk = n - k ∧ i = .int .i64 k ∧ Below w.heap.size w wr ∧ Mx wr w.heap.size w.heap.size 62 34 n (fun i => w.heap.size + 1 + i) C C (fun i => if i < k then (fun j => vE (G i j)) else fun _ => .int .u8 0))
  case atStart => exact ⟨0, Nat.zero_le _, rfl, rfl, hbel, hM.congr fun i j _ _ => by simp⟩
  case round =>
    clear hM hbel
    obtain ⟨k, hk, rfl, rfl, hbel, hM⟩ := hrel
    by_cases hlt : k < n
    · have htop := hM.top.cell hlt
      obtain ⟨b, o, rfl, hb, hc⟩ := hA1 k hlt
      have hrow : wr.cell? ⟨b, o + k, none⟩ = some (.slice (SA k) C (KA k)) := (hbel.cell hb).trans hc
      have hsrc := hA2 k hlt
      clear hc
      go_wp2_with fail
      refine wp_region_still_tail 8 mixed (by kernel_rfl) ?_
      simp only [List.take_succ_cons, List.take_zero, List.drop_succ_cons, List.drop_zero]
      repeat still_step
      refine wpStill_nil ?_
      change wpList _ _ _ _ _ wr.drew
      refine wpList_copyAll rfl (.tmp 18) (.tmp 22) 62 62 rfl 34 1 (w.heap.size + 1 + k) C C (KA k) (SA k) 34 (((fun i => if i < k then (fun j => vE (G i j)) else fun _ => .int .u8 0) : Nat → Nat → Value) k) (fun j => vE (G k j)) Try.underlying62 szE rfl rfl (by rw [Nat.mul_one]; exact (hM.row k hlt).drew) (by rw [Nat.mul_one]; exact hsrc.below hbel.drew) (fun _ _ => rfl) ?_
      intro w5 hr5 hg5
      rw [Nat.mul_one] at hr5
      have hM5 := (hM.drew.rowSet (i := k) hlt hr5 hg5).congr (g := (fun i => if i < k + 1 then (fun j => vE (G i j)) else fun _ => .int .u8 0)) fun i j _ _ => by
        by_cases e : i = k
        · subst e; simp
        · by_cases e2 : i < k
          · simp [e, e2, show i < k + 1 by omega]
          · simp [e, e2, show ¬ i < k + 1 by omega]
      have hb5 := hbel.drew.grown hg5 hbel.drew.size (fun q hq => by injection hq with hq; omega)
      clear hM hbel hr5 hg5 htop hrow hsrc
      go_wp2
      go_roundg (n - (k + 1))
      case measure => omega
      case rel => exact ⟨k + 1, by omega, rfl, by go_num, hb5, hM5⟩
    · have : k = n := by omega
      subst this
      go_wp2
      go_ret
      exact ⟨_, _, rfl, hM.congr fun i j hi _ => by simp [hi], hbel⟩
set_option maxHeartbeats 1000000 in
theorem rankE_any (A : Option Addr) (n c : Nat) (L : Nat → Nat) (G : Nat → Nat → Fin 256) (w : World) (hn : n ≤ 9223372036854775807) (hL : ∀ i, i < n → L i ≤ 9223372036854775807) (hA : ME w A n L (fun i j => (G i j).val)) :
    Calls Try.prog 48 #[.slice A n c] w fun e w' => ∃ st : Nat, e = .returned (.tuple #[.int .i64 (st : Nat), .int .i64 (faultE n L)]) ∧ Below w.heap.size w w' ∧ (faultE n L ≠ 0 → st = 0) ∧ (faultE n L = 0 → ∃ G' p, gE.RR n (colsN n L) (colsN n L) G G' st p) := by
  have CA := Lib.hid (faultE_any A n c L w hn hL hA.top)
  by_cases hf : faultE n L = 0
  · have CT := Lib.hid (twinE_any A n c L G w hf hA)
    have CC := Lib.hid (fun w' (hb : Below w.heap.size w w') => columnsE_any A n c L w' (hA.below hb).top)
    have hn' := (faultE_ok hf).1
    have hC := colsN_le hf
    have HF := Lib.hid hf
    rw [hf] at CA
    clear hf hA hL
    generalize colsN n L = C at *
    go_enter Try.func48, Try.ntmps48
    go_wp2_with fail
    refine CA.out.mono ?_
    rintro e w1 ⟨rfl, rfl⟩
    go_wp2_with fail
    refine CT.out.mono ?_
    rintro e w1 ⟨b, S, rfl, hM, hb1⟩
    go_wp2_with fail
    refine (CC.out _ hb1).mono ?_
    rintro e w2 ⟨rfl, rfl⟩
    clear CA CT CC
    go_wp2_with fail
    refine (clE_any b n n C C w.heap.size S G _ (by omega) (by omega) (Nat.le_refl _) hM).mono ?_
    rintro e w3 ⟨S', G', st, p, rfl, -, hRR, hb3⟩
    have HR := Lib.hid hRR; clear hRR hM
    go_wp2
    go_ret2
    exact ⟨st, by rw [HF.out]; rfl, hb1.trans hb3, fun h => absurd HF.out h, fun _ => ⟨G', p, HR.out⟩⟩
  · have HF := Lib.hid hf
    have t1 : (faultE n L != 0) = true := by simpa using hf
    clear hf hA hL
    generalize faultE n L = fe at *
    go_enter Try.func48, Try.ntmps48
    go_wp2_with fail
    refine CA.out.mono ?_
    rintro e w1 ⟨rfl, rfl⟩
    clear CA
    go_wp2
    go_ret2
    exact ⟨0, rfl, Below.refl _ _, fun _ => rfl, fun h => absurd h HF.out⟩
theorem szB : (Try.prog.info? 40).map (·.size) = some 1 := by kernel_rfl
set_option maxRecDepth 20000 in
set_option maxHeartbeats 1000000 in
theorem twinB_any (A : Option Addr) (n c : Nat) (L : Nat → Nat) (G : Nat → Nat → Fin 2) (w : World) (hf : faultE n L = 0) (hA : MB w A n L (fun i j => (G i j).val)) :
    Calls Try.prog 95 #[.slice A n c] w fun e w' => ∃ b S, e = .returned (.slice (some ⟨b, 0, none⟩) n n) ∧ Mx w' w.heap.size b 65 40 n S (colsN n L) (colsN n L) (fun i j => vB (G i j)) ∧ Below w.heap.size w w' := by
  obtain ⟨hn, -, -⟩ := faultE_ok hf
  have hC := colsN_le hf
  have CC := Lib.hid (columnsB_any A n c L w hA.top)
  obtain ⟨SA, KA, hA1, hA2⟩ := RdM.len hA (fun i hi => colsN_len hf i hi)
  clear hf hA
  generalize colsN n L = C at *
  go_enter Try.func95, Try.ntmps95
  go_wp2_with fail
  refine CC.out.mono ?_
  rintro e w1 ⟨rfl, rfl⟩
  clear CC
  go_wp2_with (go_at_call 80; (with_reducible refine (zerosB n C _ (by omega) (by omega)).mono ?_); rintro e w1 ⟨rfl, hM, hbel⟩)
  go_loopg [4, 12] n (fun gk _ i wr => ∃ k : Nat, k ≤ n ∧ gk = n - k ∧ i = .int .i64 k ∧ Below w.heap.size w wr ∧ Mx wr w.heap.size w.heap.size 65 40 n (fun i => w.heap.size + 1 + i) C C (fun i => if i < k then (fun j => vB (G i j)) else fun _ => .bool false))
  case atStart => exact ⟨0, Nat.zero_le _, rfl, rfl, hbel, hM.congr fun i j _ _ => by simp⟩
  case round =>
    clear hM hbel
    obtain ⟨k, hk, rfl, rfl, hbel, hM⟩ := hrel
    by_cases hlt : k < n
    · have htop := hM.top.cell hlt
      obtain ⟨b, o, rfl, hb, hc⟩ := hA1 k hlt
      have hrow : wr.cell? ⟨b, o + k, none⟩ = some (.slice (SA k) C (KA k)) := (hbel.cell hb).trans hc
      have hsrc := hA2 k hlt
      clear hc
      go_wp2_with fail
      refine wp_region_still_tail 8 mixed (by kernel_rfl) ?_
      simp only [List.take_succ_cons, List.take_zero, List.drop_succ_cons, List.drop_zero]
      repeat still_step
      refine wpStill_nil ?_
      change wpList _ _ _ _ _ wr.drew
      refine wpList_copyAll rfl (.tmp 18) (.tmp 22) 65 65 rfl 40 1 (w.heap.size + 1 + k) C C (KA k) (SA k) 40 (((fun i => if i < k then (fun j => vB (G i j)) else fun _ => .bool false) : Nat → Nat → Value) k) (fun j => vB (G k j)) Try.underlying65 szB rfl rfl (by rw [Nat.mul_one]; exact (hM.row k hlt).drew) (by rw [Nat.mul_one]; exact hsrc.below hbel.drew) (fun _ _ => rfl) ?_
      intro w5 hr5 hg5
      rw [Nat.mul_one] at hr5
      have hM5 := (hM.drew.rowSet (i := k) hlt hr5 hg5).congr (g := (fun i => if i < k + 1 then (fun j => vB (G i j)) else fun _ => .bool false)) fun i j _ _ => by
        by_cases e : i = k
        · subst e; simp
        · by_cases e2 : i < k
          · simp [e, e2, show i < k + 1 by omega]
          · simp [e, e2, show ¬ i < k + 1 by omega]
      have hb5 := hbel.drew.grown hg5 hbel.drew.size (fun q hq => by injection hq with hq; omega)
      clear hM hbel hr5 hg5 htop hrow hsrc
      go_wp2
      go_roundg (n - (k + 1))
      case measure => omega
      case rel => exact ⟨k + 1, by omega, rfl, by go_num, hb5, hM5⟩
    · have : k = n := by omega
      subst this
      go_wp2
      go_ret
      exact ⟨_, _, rfl, hM.congr fun i j hi _ => by simp [hi], hbel⟩
set_option maxHeartbeats 1000000 in
theorem rankB_any (A : Option Addr) (n c : Nat) (L : Nat → Nat) (G : Nat → Nat → Fin 2) (w : World) (hn : n ≤ 9223372036854775807) (hL : ∀ i, i < n → L i ≤ 9223372036854775807) (hA : MB w A n L (fun i j => (G i j).val)) :
    Calls Try.prog 49 #[.slice A n c] w fun e w' => ∃ st : Nat, e = .returned (.tuple #[.int .i64 (st : Nat), .int .i64 (faultE n L)]) ∧ Below w.heap.size w w' ∧ (faultE n L ≠ 0 → st = 0) ∧ (faultE n L = 0 → ∃ G' p, gB.RR n (colsN n L) (colsN n L) G G' st p) := by
  have CA := Lib.hid (faultB_any A n c L w hn hL hA.top)
  by_cases hf : faultE n L = 0
  · have CT := Lib.hid (twinB_any A n c L G w hf hA)
    have CC := Lib.hid (fun w' (hb : Below w.heap.size w w') => columnsB_any A n c L w' (hA.below hb).top)
    have hn' := (faultE_ok hf).1
    have hC := colsN_le hf
    have HF := Lib.hid hf
    rw [hf] at CA
    clear hf hA hL
    generalize colsN n L = C at *
    go_enter Try.func49, Try.ntmps49
    go_wp2_with fail
    refine CA.out.mono ?_
    rintro e w1 ⟨rfl, rfl⟩
    go_wp2_with fail
    refine CT.out.mono ?_
    rintro e w1 ⟨b, S, rfl, hM, hb1⟩
    go_wp2_with fail
    refine (CC.out _ hb1).mono ?_
    rintro e w2 ⟨rfl, rfl⟩
    clear CA CT CC
    go_wp2_with fail
    refine (clB_any b n n C C w.heap.size S G _ (by omega) (by omega) (Nat.le_refl _) hM).mono ?_
    rintro e w3 ⟨S', G', st, p, rfl, -, hRR, hb3⟩
    have HR := Lib.hid hRR; clear hRR hM
    go_wp2
    go_ret2
    exact ⟨st, by rw [HF.out]; rfl, hb1.trans hb3, fun h => absurd HF.out h, fun _ => ⟨G', p, HR.out⟩⟩
  · have HF := Lib.hid hf
    have t1 : (faultE n L != 0) = true := by simpa using hf
    clear hf hA hL
    generalize faultE n L = fe at *
    go_enter Try.func49, Try.ntmps49
    go_wp2_with fail
    refine CA.out.mono ?_
    rintro e w1 ⟨rfl, rfl⟩
    clear CA
    go_wp2
    go_ret2
    exact ⟨0, rfl, Below.refl _ _, fun _ => rfl, fun h => absurd h HF.out⟩
theorem szF : (Try.prog.info? 47).map (·.size) = some 2 := by kernel_rfl
set_option maxRecDepth 20000 in
set_option maxHeartbeats 1000000 in
theorem twinF_any (A : Option Addr) (n c : Nat) (L : Nat → Nat) (G : Nat → Nat → Fin 4) (w : World) (hf : faultE n L = 0) (hA : MF w A n L (fun i j => (G i j).val)) :
    Calls Try.prog 97 #[.slice A n c] w fun e w' => ∃ b S, e = .returned (.slice (some ⟨b, 0, none⟩) n n) ∧ Mx w' w.heap.size b 68 47 n S (colsN n L) ((colsN n L) * 2) (fun i => cF (G i)) ∧ Below w.heap.size w w' := by
  obtain ⟨hn, -, -⟩ := faultE_ok hf
  have hC := colsN_le hf
  have CC := Lib.hid (columnsF_any A n c L w hA.top)
  have hE : ∀ i, i < n → L i = colsN n L := fun i hi => colsN_len hf i hi
  obtain ⟨SA, KA, hA1, hA2⟩ := hA
  have hA1 := hA1.congr (g := fun i => .slice (SA i) (colsN n L) (KA i)) fun i hi => by rw [hE i hi]
  have hA2 : ∀ i, i < n → Rd w (SA i) (colsN n L * 2) (cF (G i)) := fun i hi => by have := hA2 i hi; rw [hE i hi] at this; exact this.cells.congr fun j _ => two_cF _ _
  clear hE
  clear hf
  generalize colsN n L = C at *
  go_enter Try.func97, Try.ntmps97
  go_wp2_with fail
  refine CC.out.mono ?_
  rintro e w1 ⟨rfl, rfl⟩
  clear CC
  go_wp2_with (go_at_call 81; (with_reducible refine (zerosF n C _ (by omega) (by omega)).mono ?_); rintro e w1 ⟨rfl, hM, hbel⟩)
  go_loopg [4, 12] n (fun gk _ i wr => ∃ k : Nat, k ≤ n ∧ gk = n - k ∧ i = .int .i64 k ∧ Below w.heap.size w wr ∧ Mx wr w.heap.size w.heap.size 68 47 n (fun i => w.heap.size + 1 + i) C (C * 2) (fun i => if i < k then (cF (G i)) else fun _ => .bool false))
  case atStart => exact ⟨0, Nat.zero_le _, rfl, rfl, hbel, hM.congr fun i j _ _ => by simp⟩
  case round =>
    clear hM hbel
    obtain ⟨k, hk, rfl, rfl, hbel, hM⟩ := hrel
    by_cases hlt : k < n
    · have htop := hM.top.cell hlt
      obtain ⟨b, o, rfl, hb, hc⟩ := hA1 k hlt
      have hrow : wr.cell? ⟨b, o + k, none⟩ = some (.slice (SA k) C (KA k)) := (hbel.cell hb).trans hc
      have hsrc := hA2 k hlt
      clear hc
      go_wp2_with fail
      refine wp_region_still_tail 8 mixed (by kernel_rfl) ?_
      simp only [List.take_succ_cons, List.take_zero, List.drop_succ_cons, List.drop_zero]
      repeat still_step
      refine wpStill_nil ?_
      change wpList _ _ _ _ _ wr.drew
      refine wpList_copyAll rfl (.tmp 18) (.tmp 22) 68 68 rfl 47 2 (w.heap.size + 1 + k) C C (KA k) (SA k) 47 (((fun i => if i < k then (cF (G i)) else fun _ => .bool false) : Nat → Nat → Value) k) (cF (G k)) Try.underlying68 szF rfl rfl (by exact (hM.row k hlt).drew) (by exact hsrc.below hbel.drew) (fun j _ => by unfold cF pcell; split <;> rfl) ?_
      intro w5 hr5 hg5
      skip
      have hM5 := (hM.drew.rowSet (i := k) hlt hr5 hg5).congr (g := (fun i => if i < k + 1 then (cF (G i)) else fun _ => .bool false)) fun i j _ _ => by
        by_cases e : i = k
        · subst e; simp
        · by_cases e2 : i < k
          · simp [e, e2, show i < k + 1 by omega]
          · simp [e, e2, show ¬ i < k + 1 by omega]
      have hb5 := hbel.drew.grown hg5 hbel.drew.size (fun q hq => by injection hq with hq; omega)
      clear hM hbel hr5 hg5 htop hrow hsrc
      go_wp2
      go_roundg (n - (k + 1))
      case measure => omega
      case rel => exact ⟨k + 1, by omega, rfl, by go_num, hb5, hM5⟩
    · have : k = n := by omega
      subst this
      go_wp2
      go_ret
      exact ⟨_, _, rfl, hM.congr fun i j hi _ => by simp [hi], hbel⟩
set_option maxHeartbeats 1000000 in
theorem rankF_any (A : Option Addr) (n c : Nat) (L : Nat → Nat) (G : Nat → Nat → Fin 4) (w : World) (hn : n ≤ 9223372036854775807) (hL : ∀ i, i < n → L i ≤ 9223372036854775807) (hA : MF w A n L (fun i j => (G i j).val)) :
    Calls Try.prog 50 #[.slice A n c] w fun e w' => ∃ st : Nat, e = .returned (.tuple #[.int .i64 (st : Nat), .int .i64 (faultE n L)]) ∧ Below w.heap.size w w' ∧ (faultE n L ≠ 0 → st = 0) ∧ (faultE n L = 0 → ∃ G' p, gF.RR n (colsN n L) (colsN n L) G G' st p) := by
  have CA := Lib.hid (faultF_any A n c L w hn hL hA.top)
  by_cases hf : faultE n L = 0
  · have CT := Lib.hid (twinF_any A n c L G w hf hA)
    have CC := Lib.hid (fun w' (hb : Below w.heap.size w w') => columnsF_any A n c L w' (hA.below hb).top)
    have hn' := (faultE_ok hf).1
    have hC := colsN_le hf
    have HF := Lib.hid hf
    rw [hf] at CA
    clear hf hA hL
    generalize colsN n L = C at *
    go_enter Try.func50, Try.ntmps50
    go_wp2_with fail
    refine CA.out.mono ?_
    rintro e w1 ⟨rfl, rfl⟩
    go_wp2_with fail
    refine CT.out.mono ?_
    rintro e w1 ⟨b, S, rfl, hM, hb1⟩
    go_wp2_with fail
    refine (CC.out _ hb1).mono ?_
    rintro e w2 ⟨rfl, rfl⟩
    clear CA CT CC
    go_wp2_with fail
    refine (clF_any b n n C C w.heap.size S G _ (by omega) (by omega) (Nat.le_refl _) hM).mono ?_
    rintro e w3 ⟨S', G', st, p, rfl, -, hRR, hb3⟩
    have HR := Lib.hid hRR; clear hRR hM
    go_wp2
    go_ret2
    exact ⟨st, by rw [HF.out]; rfl, hb1.trans hb3, fun h => absurd HF.out h, fun _ => ⟨G', p, HR.out⟩⟩
  · have HF := Lib.hid hf
    have t1 : (faultE n L != 0) = true := by simpa using hf
    clear hf hA hL
    generalize faultE n L = fe at *
    go_enter Try.func50, Try.ntmps50
    go_wp2_with fail
    refine CA.out.mono ?_
    rintro e w1 ⟨rfl, rfl⟩
    clear CA
    go_wp2
    go_ret2
    exact ⟨0, rfl, Below.refl _ _, fun _ => rfl, fun h => absurd h HF.out⟩
end Go.Proofs.Ytpocjpodeahanaa
