/- twin and Rank over the field of 256: the walks. Conditions: lengths that memory bears. -/
import Derived.Test.YthodpgkelmalmaaClE
import Derived.Test.YthodpgkelmalmaaBasE
namespace Go.Proofs.Ythodpgkelmalmaa
open Go.RowKit

theorem szE : (Try.prog.info? 57).map (·.size) = some 1 := by kernel_rfl
set_option maxRecDepth 20000 in
set_option maxHeartbeats 1000000 in
theorem twinE_any (A : Option Addr) (n c : Nat) (L : Nat → Nat) (G : Nat → Nat → Fin 256) (w : World) (hf : faultE n L = 0) (hA : ME w A n L (fun i j => (G i j).val)) :
    Calls Try.prog 71 #[.slice A n c] w fun e w' => ∃ b S, e = .returned (.slice (some ⟨b, 0, none⟩) n n) ∧ Mx w' w.heap.size b 78 57 n S (colsN n L) (colsN n L) (fun i j => vE (G i j)) ∧ Below w.heap.size w w' := by
  obtain ⟨hn, -, -⟩ := faultE_ok hf
  have hC := colsN_le hf
  have CC := Lib.hid (columnsE_any A n c L w hA.top)
  obtain ⟨SA, KA, hA1, hA2⟩ := RdM.len hA (fun i hi => colsN_len hf i hi)
  clear hf hA
  generalize colsN n L = C at *
  go_enter Try.func71, Try.ntmps71
  go_wp2_with fail
  refine CC.out.mono ?_
  rintro e w1 ⟨rfl, rfl⟩
  clear CC
  go_wp2_with (go_at_call 67; (with_reducible refine (zerosE n C _ (by omega) (by omega)).mono ?_); rintro e w1 ⟨rfl, hM, hbel⟩)
  go_loopg [4, 12] n (fun gk _ i wr => ∃ k : Nat, k ≤ n ∧ gk = n - k ∧ i = .int .i64 k ∧ Below w.heap.size w wr ∧ Mx wr w.heap.size w.heap.size 78 57 n (fun i => w.heap.size + 1 + i) C C (fun i => if i < k then (fun j => vE (G i j)) else fun _ => .int .u8 0))
  case atStart => exact ⟨0, Nat.zero_le _, rfl, rfl, hbel, hM.congr fun i j _ _ => by simp⟩
  case round =>
    clear hM hbel
    obtain ⟨k, hk, rfl, rfl, hbel, hM⟩ := hrel
    by_cases hlt : k < n
    · have htop := hM.top.cell hlt
      obtain ⟨b, o, rfl, hb, hc⟩ := hA1 k hlt
      have hrow : wr.cell? ⟨b, o + k, none⟩ = some (.slice (SA k) C (KA k)) := (hbel.cell hb).trans hc
      have hsrc := hA2 k hlt
      clear hc
      go_wp2_with fail
      refine wp_region_still_tail 8 mixed (by kernel_rfl) ?_
      simp only [List.take_succ_cons, List.take_zero, List.drop_succ_cons, List.drop_zero]
      repeat still_step
      refine wpStill_nil ?_
      change wpList _ _ _ _ _ wr.drew
      refine wpList_copyAll rfl (.tmp 18) (.tmp 22) 78 78 rfl 57 1 (w.heap.size + 1 + k) C C (KA k) (SA k) 57 (((fun i => if i < k then (fun j => vE (G i j)) else fun _ => .int .u8 0) : Nat → Nat → Value) k) (fun j => vE (G k j)) Try.underlying78 szE rfl rfl (by rw [Nat.mul_one]; exact (hM.row k hlt).drew) (by rw [Nat.mul_one]; exact hsrc.below hbel.drew) (fun _ _ => rfl) ?_
      intro w5 hr5 hg5
      rw [Nat.mul_one] at hr5
      have hM5 := (hM.drew.rowSet (i := k) hlt hr5 hg5).congr (g := (fun i => if i < k + 1 then (fun j => vE (G i j)) else fun _ => .int .u8 0)) fun i j _ _ => by
        by_cases e : i = k
        · subst e; simp
        · by_cases e2 : i < k
          · simp [e, e2, show i < k + 1 by omega]
          · simp [e, e2, show ¬ i < k + 1 by omega]
      have hb5 := hbel.drew.grown hg5 hbel.drew.size (fun q hq => by injection hq with hq; omega)
      clear hM hbel hr5 hg5 htop hrow hsrc
      go_wp2
      go_roundg (n - (k + 1))
      case measure => omega
      case rel => exact ⟨k + 1, by omega, rfl, by go_num, hb5, hM5⟩
    · have : k = n := by omega
      subst this
      go_wp2
      go_ret
      exact ⟨_, _, rfl, hM.congr fun i j hi _ => by simp [hi], hbel⟩
set_option maxHeartbeats 1000000 in
theorem rankE_any (A : Option Addr) (n c : Nat) (L : Nat → Nat) (G : Nat → Nat → Fin 256) (w : World) (hn : n ≤ 9223372036854775807) (hL : ∀ i, i < n → L i ≤ 9223372036854775807) (hA : ME w A n L (fun i j => (G i j).val)) :
    Calls Try.prog 46 #[.slice A n c] w fun e w' => ∃ st : Nat, e = .returned (.tuple #[.int .i64 (st : Nat), .int .i64 (faultE n L)]) ∧ Below w.heap.size w w' ∧ (faultE n L ≠ 0 → st = 0) ∧ (faultE n L = 0 → ∃ G' p, gE.RR n (colsN n L) (colsN n L) G G' st p) := by
  have CA := Lib.hid (faultE_any A n c L w hn hL hA.top)
  by_cases hf : faultE n L = 0
  · have CT := Lib.hid (twinE_any A n c L G w hf hA)
    have CC := Lib.hid (fun w' (hb : Below w.heap.size w w') => columnsE_any A n c L w' (hA.below hb).top)
    have hn' := (faultE_ok hf).1
    have hC := colsN_le hf
    have HF := Lib.hid hf
    rw [hf] at CA
    clear hf hA hL
    generalize colsN n L = C at *
    go_enter Try.func46, Try.ntmps46
    go_wp2_with fail
    refine CA.out.mono ?_
    rintro e w1 ⟨rfl, rfl⟩
    go_wp2_with fail
    refine CT.out.mono ?_
    rintro e w1 ⟨b, S, rfl, hM, hb1⟩
    go_wp2_with fail
    refine (CC.out _ hb1).mono ?_
    rintro e w2 ⟨rfl, rfl⟩
    clear CA CT CC
    go_wp2_with fail
    refine (clE_any b n n C C w.heap.size S G _ (by omega) (by omega) (Nat.le_refl _) hM).mono ?_
    rintro e w3 ⟨S', G', st, p, rfl, -, hRR, hb3⟩
    have HR := Lib.hid hRR; clear hRR hM
    go_wp2
    go_ret2
    exact ⟨st, by rw [HF.out]; rfl, hb1.trans hb3, fun h => absurd HF.out h, fun _ => ⟨G', p, HR.out⟩⟩
  · have HF := Lib.hid hf
    have t1 : (faultE n L != 0) = true := by simpa using hf
    clear hf hA hL
    generalize faultE n L = fe at *
    go_enter Try.func46, Try.ntmps46
    go_wp2_with fail
    refine CA.out.mono ?_
    rintro e w1 ⟨rfl, rfl⟩
    clear CA
    go_wp2
    go_ret2
    exact ⟨0, rfl, Below.refl _ _, fun _ => rfl, fun h => absurd h HF.out⟩
end Go.Proofs.Ythodpgkelmalmaa
