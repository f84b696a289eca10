/- The helpers of the page on what is said outright: numbers of rows, alike, right, wide, unit: the walks. Conditions: small sizes. -/
import Derived.Test.YtpocjpodeahanaaTwin
import Derived.Test.YtpocjpodeahanaaOutP
namespace Go.Proofs.Ytpocjpodeahanaa
open Go.RowKit

theorem rd2_cells {w : World} {A : Option Addr} {n : Nat} {f g : Nat → Value} (h : Rd2 w A n f g) (i : Nat) (hi : i < n) : ∃ b o, A = some ⟨b, o, none⟩ ∧ b < w.heap.size ∧ w.cell? ⟨b, o + i * 2, none⟩ = some (f i) ∧ w.cell? ⟨b, o + i * 2 + 1, none⟩ = some (g i) := h i hi

set_option maxRecDepth 20000 in
set_option maxHeartbeats 2000000 in
theorem intsE_any (A : Option Addr) (n c : Nat) (L : Nat → Nat) (g : Nat → Nat → Nat) (w : World) (hn : n ≤ 1000000) (hL : ∀ i, i < n → L i ≤ 1000000) (hg : ∀ i j, g i j < 256) (hA : ME w A n L g) :
    Calls Try.prog 76 #[.slice A n c] w fun e w' => ∃ v S C, e = .returned v ∧ OwnQ w' w.heap.size 23 3 1 v n S C L (fun i j => [.int .i64 (g i j)]) ∧ Below w.heap.size w w' := by
  obtain ⟨SA, CA, hA1, hA2⟩ := hA
  have HL := Lib.hid hL; clear hL
  go_enter Try.func76, Try.ntmps76
  go_wp2
  go_loopg [3, 4, 5, 6] n (fun gk v i _ _ wr => ∃ (k : Nat) (S : Nat → Option Addr) (C : Nat → Nat), k ≤ n ∧ gk = n - k ∧ i = .int .i64 k ∧ OwnQ wr w.heap.size 23 3 1 v k S C L (fun i j => [.int .i64 (g i j)]) ∧ Below w.heap.size w wr)
  case atStart => exact ⟨0, fun _ => none, fun _ => 0, Nat.zero_le _, rfl, rfl, OwnQ.nil _ _ _ _ _ _ _ _ _, Below.refl _ _⟩
  case round =>
    obtain ⟨k, S, C, hk, rfl, rfl, hown, hbel⟩ := hrel
    have hsz := hbel.size
    by_cases hlt : k < n
    · obtain ⟨b, o, rfl, hb, hc⟩ := hA1 k hlt
      have hrA := hA2 k hlt
      have hLk := HL.out k hlt
      replace hc : w.cell? ⟨b, o + k, none⟩ = some (.slice (SA k) (L k) (CA k)) := hc
      clear hA2 hA1
      generalize SA k = Ak at *
      have HAc := Lib.hid hc; clear hc
      obtain ⟨W0, hW0⟩ : ∃ W0, W0 = wr := ⟨_, rfl⟩
      have hbr : Below W0.heap.size W0 wr := by rw [hW0]; exact Below.refl _ _
      rw [← hW0] at hown hbel hsz
      clear hW0
      obtain ⟨B0, hB0⟩ : ∃ B0, B0 = W0.heap.size := ⟨_, rfl⟩
      rw [← hB0] at hsz hbr
      have HB0 := Lib.hid hB0; clear hB0
      have hsB := hbr.size
      rw [← HB0.out] at hsB
      go_wp2
      go_loopg [5, 6] (L k) (fun gk l j w5 => ∃ q : Nat, q ≤ L k ∧ gk = L k - q ∧ j = .int .i64 q ∧ Own w5 B0 3 1 l q (fun j => [.int .i64 (g k j)]) ∧ Below B0 W0 w5)
      case atStart => exact ⟨0, Nat.zero_le _, rfl, rfl, Own.nil _ _ _ _ _, hbr⟩
      case round =>
        clear hbr hsB
        obtain ⟨q, hq, rfl, rfl, hrow, hbr⟩ := hrel
        have hbw := hbel.trans (hbr.mono hsz)
        have hs2 := hbr.size
        rw [← HB0.out] at hs2
        by_cases hlq : q < L k
        · have hgx := hg k q
          obtain ⟨b1, o1, rfl, hb1, hc1⟩ := hrA q hlq
          have hx : wr.cell? ⟨b1, o1 + q, none⟩ = some (.int .u8 (g k q)) := (hbw.cell hb1).trans hc1
          have hrowA : wr.cell? ⟨b, o + k, none⟩ = some (.slice (some ⟨b1, o1, none⟩) (L k) (CA k)) := (hbw.cell hb).trans HAc.out
          clear hc1 hg
          go_wp2_with (at_builtin; refine wpList_push _ rfl (.tmp 22) (.tmp 31) 23 rfl B0 3 1 8 (.int .i64 0) #[.int .i64 (g k q)] Try.underlying23 intInfo rfl (by decide) _ q _ rfl hrow hs2 _ rfl rfl rfl rfl rfl (by omega) (by omega) ?_)
          intro v' w7 hrow4 hbr4 _ _
          have hbr5 := hbr.trans hbr4
          clear hrow hbr hbr4 hbw
          go_wp2
          go_roundg (L k - (q + 1))
          case measure => omega
          case rel => exact ⟨q + 1, by omega, rfl, by go_num, hrow4, hbr5⟩
        · have : q = L k := by omega
          subst this
          have hrowA : wr.cell? ⟨b, o + k, none⟩ = some (.slice Ak (L k) (CA k)) := (hbw.cell hb).trans HAc.out
          obtain ⟨A1, c1, rfl, _, _, _, _⟩ := hrow.rd
          have hownB := (hown.kept (by rw [← HB0.out]; exact hbr)).next A1 c1
          have hrow' : Own wr w.heap.size 3 1 (.slice (upd S k A1 k) (L k) (upd C k c1 k)) (L k) (fun j => [.int .i64 (g k j)]) := by
            rw [upd_at, upd_at]; exact hrow.mono hsz
          have hu : Hid ((#[Value.slice A1 (L k) c1] : Array Value).toList = [.slice (upd S k A1 k) (L k) (upd C k c1 k)]) := by rw [upd_at, upd_at]; rfl
          have hbel1 := hbw
          have hsz1 := hbel1.size
          clear hown hrow hbr hbel hbw
          go_wp2_with (at_builtin; refine wpList_push _ rfl (.tmp 33) (.tmp 35) 22 rfl w.heap.size 23 1 24 (.slice none 0 0) #[.slice A1 (L k) c1] Try.underlying22 intsInfo rfl (by decide) _ k _ rfl hownB.1 hsz1 _ rfl rfl hu.out rfl rfl (by omega) (by omega) ?_)
          intro v' w7 hown4 hbel4 hg4 _
          have hO := hownB.push (by decide) hrow' hown4 hg4
          have hbelF := hbel1.trans hbel4
          clear hownB hrow' hown4 hg4 hbel4 hbel1
          go_wp2
          go_roundg (n - (k + 1))
          case measure => omega
          case rel => exact ⟨k + 1, _, _, by omega, rfl, by go_num, hO, hbelF⟩
    · have : k = n := by omega
      subst this
      go_wp2
      go_ret
      exact ⟨_, _, _, rfl, hown, hbel⟩

set_option maxRecDepth 20000 in
set_option maxHeartbeats 2000000 in
theorem intsB_any (A : Option Addr) (n c : Nat) (L : Nat → Nat) (g : Nat → Nat → Nat) (w : World) (hn : n ≤ 1000000) (hL : ∀ i, i < n → L i ≤ 1000000) (hg : ∀ i j, g i j < 2) (hA : MB w A n L g) :
    Calls Try.prog 106 #[.slice A n c] w fun e w' => ∃ v S C, e = .returned v ∧ OwnQ w' w.heap.size 23 3 1 v n S C L (fun i j => [.int .i64 (g i j)]) ∧ Below w.heap.size w w' := by
  obtain ⟨SA, CA, hA1, hA2⟩ := hA
  have HL := Lib.hid hL; clear hL
  go_enter Try.func106, Try.ntmps106
  go_wp2
  go_loopg [3, 4, 5, 6, 7] n (fun gk v i _ _ _ wr => ∃ (k : Nat) (S : Nat → Option Addr) (C : Nat → Nat), k ≤ n ∧ gk = n - k ∧ i = .int .i64 k ∧ OwnQ wr w.heap.size 23 3 1 v k S C L (fun i j => [.int .i64 (g i j)]) ∧ Below w.heap.size w wr)
  case atStart => exact ⟨0, fun _ => none, fun _ => 0, Nat.zero_le _, rfl, rfl, OwnQ.nil _ _ _ _ _ _ _ _ _, Below.refl _ _⟩
  case round =>
    obtain ⟨k, S, C, hk, rfl, rfl, hown, hbel⟩ := hrel
    have hsz := hbel.size
    by_cases hlt : k < n
    · obtain ⟨b, o, rfl, hb, hc⟩ := hA1 k hlt
      have hrA := hA2 k hlt
      have hLk := HL.out k hlt
      replace hc : w.cell? ⟨b, o + k, none⟩ = some (.slice (SA k) (L k) (CA k)) := hc
      clear hA2 hA1
      generalize SA k = Ak at *
      have HAc := Lib.hid hc; clear hc
      obtain ⟨W0, hW0⟩ : ∃ W0, W0 = wr := ⟨_, rfl⟩
      have hbr : Below W0.heap.size W0 wr := by rw [hW0]; exact Below.refl _ _
      rw [← hW0] at hown hbel hsz
      clear hW0
      obtain ⟨B0, hB0⟩ : ∃ B0, B0 = W0.heap.size := ⟨_, rfl⟩
      rw [← hB0] at hsz hbr
      have HB0 := Lib.hid hB0; clear hB0
      have hsB := hbr.size
      rw [← HB0.out] at hsB
      go_wp2
      go_loopg [5, 6, 7] (L k) (fun gk l j _ w5 => ∃ q : Nat, q ≤ L k ∧ gk = L k - q ∧ j = .int .i64 q ∧ Own w5 B0 3 1 l q (fun j => [.int .i64 (g k j)]) ∧ Below B0 W0 w5)
      case atStart => exact ⟨0, Nat.zero_le _, rfl, rfl, Own.nil _ _ _ _ _, hbr⟩
      case round =>
        clear hbr hsB
        obtain ⟨q, hq, rfl, rfl, hrow, hbr⟩ := hrel
        have hbw := hbel.trans (hbr.mono hsz)
        have hs2 := hbr.size
        rw [← HB0.out] at hs2
        by_cases hlq : q < L k
        · have hgx := hg k q
          obtain ⟨b1, o1, rfl, hb1, hc1⟩ := hrA q hlq
          have hx : wr.cell? ⟨b1, o1 + q, none⟩ = some (.bool (bB (g k q))) := (hbw.cell hb1).trans hc1
          have hrowA : wr.cell? ⟨b, o + k, none⟩ = some (.slice (some ⟨b1, o1, none⟩) (L k) (CA k)) := (hbw.cell hb).trans HAc.out
          clear hc1 hg
          rcases (show g k q = 0 ∨ g k q = 1 by omega) with hv | hv
          · have hu : Hid ((#[Value.int .i64 0] : Array Value).toList = [.int .i64 (g k q)]) := by rw [hv]; rfl
            have t0 : bB (g k q) = false := by rw [hv]; decide
            clear hv
            go_wp2_with (at_builtin; refine wpList_push _ rfl (.tmp 30) (.tmp 32) 23 rfl B0 3 1 8 (.int .i64 0) #[.int .i64 0] Try.underlying23 intInfo rfl (by decide) _ q _ rfl hrow hs2 _ rfl rfl hu.out rfl rfl (by omega) (by omega) ?_)
            intro v' w7 hrow4 hbr4 _ _
            have hbr5 := hbr.trans hbr4
            clear hrow hbr hbr4 hbw
            go_wp2
            go_roundg (L k - (q + 1))
            case measure => omega
            case rel => exact ⟨q + 1, by omega, rfl, by go_num, hrow4, hbr5⟩
          · have hu : Hid ((#[Value.int .i64 1] : Array Value).toList = [.int .i64 (g k q)]) := by rw [hv]; rfl
            have t0 : bB (g k q) = true := by rw [hv]; decide
            clear hv
            go_wp2_with (at_builtin; refine wpList_push _ rfl (.tmp 30) (.tmp 32) 23 rfl B0 3 1 8 (.int .i64 0) #[.int .i64 1] Try.underlying23 intInfo rfl (by decide) _ q _ rfl hrow hs2 _ rfl rfl hu.out rfl rfl (by omega) (by omega) ?_)
            intro v' w7 hrow4 hbr4 _ _
            have hbr5 := hbr.trans hbr4
            clear hrow hbr hbr4 hbw
            go_wp2
            go_roundg (L k - (q + 1))
            case measure => omega
            case rel => exact ⟨q + 1, by omega, rfl, by go_num, hrow4, hbr5⟩
        · have : q = L k := by omega
          subst this
          have hrowA : wr.cell? ⟨b, o + k, none⟩ = some (.slice Ak (L k) (CA k)) := (hbw.cell hb).trans HAc.out
          obtain ⟨A1, c1, rfl, _, _, _, _⟩ := hrow.rd
          have hownB := (hown.kept (by rw [← HB0.out]; exact hbr)).next A1 c1
          have hrow' : Own wr w.heap.size 3 1 (.slice (upd S k A1 k) (L k) (upd C k c1 k)) (L k) (fun j => [.int .i64 (g k j)]) := by
            rw [upd_at, upd_at]; exact hrow.mono hsz
          have hu : Hid ((#[Value.slice A1 (L k) c1] : Array Value).toList = [.slice (upd S k A1 k) (L k) (upd C k c1 k)]) := by rw [upd_at, upd_at]; rfl
          have hbel1 := hbw
          have hsz1 := hbel1.size
          clear hown hrow hbr hbel hbw
          go_wp2_with (at_builtin; refine wpList_push _ rfl (.tmp 34) (.tmp 36) 22 rfl w.heap.size 23 1 24 (.slice none 0 0) #[.slice A1 (L k) c1] Try.underlying22 intsInfo rfl (by decide) _ k _ rfl hownB.1 hsz1 _ rfl rfl hu.out rfl rfl (by omega) (by omega) ?_)
          intro v' w7 hown4 hbel4 hg4 _
          have hO := hownB.push (by decide) hrow' hown4 hg4
          have hbelF := hbel1.trans hbel4
          clear hownB hrow' hown4 hg4 hbel4 hbel1
          go_wp2
          go_roundg (n - (k + 1))
          case measure => omega
          case rel => exact ⟨k + 1, _, _, by omega, rfl, by go_num, hO, hbelF⟩
    · have : k = n := by omega
      subst this
      go_wp2
      go_ret
      exact ⟨_, _, _, rfl, hown, hbel⟩

set_option maxRecDepth 20000 in
set_option maxHeartbeats 2000000 in
theorem intsF_any (A : Option Addr) (n c : Nat) (L : Nat → Nat) (g : Nat → Nat → Nat) (w : World) (hn : n ≤ 1000000) (hL : ∀ i, i < n → L i ≤ 1000000) (hg : ∀ i j, g i j < 4) (hA : MF w A n L g) :
    Calls Try.prog 107 #[.slice A n c] w fun e w' => ∃ v S C, e = .returned v ∧ OwnQ w' w.heap.size 23 3 1 v n S C L (fun i j => [.int .i64 (g i j)]) ∧ Below w.heap.size w w' := by
  obtain ⟨SA, CA, hA1, hA2⟩ := hA
  have HL := Lib.hid hL; clear hL
  go_enter Try.func107, Try.ntmps107
  go_wp2
  go_loopg [3, 4, 5, 6, 7] n (fun gk v i _ _ _ wr => ∃ (k : Nat) (S : Nat → Option Addr) (C : Nat → Nat), k ≤ n ∧ gk = n - k ∧ i = .int .i64 k ∧ OwnQ wr w.heap.size 23 3 1 v k S C L (fun i j => [.int .i64 (g i j)]) ∧ Below w.heap.size w wr)
  case atStart => exact ⟨0, fun _ => none, fun _ => 0, Nat.zero_le _, rfl, rfl, OwnQ.nil _ _ _ _ _ _ _ _ _, Below.refl _ _⟩
  case round =>
    obtain ⟨k, S, C, hk, rfl, rfl, hown, hbel⟩ := hrel
    have hsz := hbel.size
    by_cases hlt : k < n
    · obtain ⟨b, o, rfl, hb, hc⟩ := hA1 k hlt
      have hrA := hA2 k hlt
      have hLk := HL.out k hlt
      replace hc : w.cell? ⟨b, o + k, none⟩ = some (.slice (SA k) (L k) (CA k)) := hc
      clear hA2 hA1
      generalize SA k = Ak at *
      have HAc := Lib.hid hc; clear hc
      obtain ⟨W0, hW0⟩ : ∃ W0, W0 = wr := ⟨_, rfl⟩
      have hbr : Below W0.heap.size W0 wr := by rw [hW0]; exact Below.refl _ _
      rw [← hW0] at hown hbel hsz
      clear hW0
      obtain ⟨B0, hB0⟩ : ∃ B0, B0 = W0.heap.size := ⟨_, rfl⟩
      rw [← hB0] at hsz hbr
      have HB0 := Lib.hid hB0; clear hB0
      have hsB := hbr.size
      rw [← HB0.out] at hsB
      go_wp2
      go_loopg [5, 6, 7] (L k) (fun gk l j _ w5 => ∃ q : Nat, q ≤ L k ∧ gk = L k - q ∧ j = .int .i64 q ∧ Own w5 B0 3 1 l q (fun j => [.int .i64 (g k j)]) ∧ Below B0 W0 w5)
      case atStart => exact ⟨0, Nat.zero_le _, rfl, rfl, Own.nil _ _ _ _ _, hbr⟩
      case round =>
        clear hbr hsB
        obtain ⟨q, hq, rfl, rfl, hrow, hbr⟩ := hrel
        have hbw := hbel.trans (hbr.mono hsz)
        have hs2 := hbr.size
        rw [← HB0.out] at hs2
        by_cases hlq : q < L k
        · have hgx := hg k q
          obtain ⟨b1, o1, rfl, hb1, hc1, hc2⟩ := rd2_cells hrA q hlq
          have hx : wr.cell? ⟨b1, o1 + q * 2, none⟩ = some (.bool (f0 (g k q))) := (hbw.cell hb1).trans hc1
          have hy : wr.cell? ⟨b1, o1 + q * 2 + 1, none⟩ = some (.bool (f1 (g k q))) := (hbw.cell hb1).trans hc2
          have hrowA : wr.cell? ⟨b, o + k, none⟩ = some (.slice (some ⟨b1, o1, none⟩) (L k) (CA k)) := (hbw.cell hb).trans HAc.out
          clear hc1 hc2 hg
          rcases (show g k q = 0 ∨ g k q = 1 ∨ g k q = 2 ∨ g k q = 3 by omega) with hv | hv | hv | hv
          · have hu : Hid ((#[Value.int .i64 0] : Array Value).toList = [.int .i64 (g k q)]) := by rw [hv]; rfl
            have t0 : f0 (g k q) = false := by rw [hv]; decide
            have t1 : f1 (g k q) = false := by rw [hv]; decide
            clear hv
            go_wp2_with (at_builtin; refine wpList_push _ rfl (.tmp 41) (.tmp 43) 23 rfl B0 3 1 8 (.int .i64 0) #[.int .i64 0] Try.underlying23 intInfo rfl (by decide) _ q _ rfl hrow hs2 _ rfl rfl hu.out rfl rfl (by omega) (by omega) ?_)
            intro v' w7 hrow4 hbr4 _ _
            have hbr5 := hbr.trans hbr4
            clear hrow hbr hbr4 hbw
            go_wp2
            go_roundg (L k - (q + 1))
            case measure => omega
            case rel => exact ⟨q + 1, by omega, rfl, by go_num, hrow4, hbr5⟩
          · have hu : Hid ((#[Value.int .i64 1] : Array Value).toList = [.int .i64 (g k q)]) := by rw [hv]; rfl
            have t0 : f0 (g k q) = true := by rw [hv]; decide
            have t1 : f1 (g k q) = false := by rw [hv]; decide
            clear hv
            go_wp2_with (at_builtin; refine wpList_push _ rfl (.tmp 41) (.tmp 43) 23 rfl B0 3 1 8 (.int .i64 0) #[.int .i64 1] Try.underlying23 intInfo rfl (by decide) _ q _ rfl hrow hs2 _ rfl rfl hu.out rfl rfl (by omega) (by omega) ?_)
            intro v' w7 hrow4 hbr4 _ _
            have hbr5 := hbr.trans hbr4
            clear hrow hbr hbr4 hbw
            go_wp2
            go_roundg (L k - (q + 1))
            case measure => omega
            case rel => exact ⟨q + 1, by omega, rfl, by go_num, hrow4, hbr5⟩
          · have hu : Hid ((#[Value.int .i64 2] : Array Value).toList = [.int .i64 (g k q)]) := by rw [hv]; rfl
            have t0 : f0 (g k q) = false := by rw [hv]; decide
            have t1 : f1 (g k q) = true := by rw [hv]; decide
            clear hv
            go_wp2_with (at_builtin; refine wpList_push _ rfl (.tmp 41) (.tmp 43) 23 rfl B0 3 1 8 (.int .i64 0) #[.int .i64 2] Try.underlying23 intInfo rfl (by decide) _ q _ rfl hrow hs2 _ rfl rfl hu.out rfl rfl (by omega) (by omega) ?_)
            intro v' w7 hrow4 hbr4 _ _
            have hbr5 := hbr.trans hbr4
            clear hrow hbr hbr4 hbw
            go_wp2
            go_roundg (L k - (q + 1))
            case measure => omega
            case rel => exact ⟨q + 1, by omega, rfl, by go_num, hrow4, hbr5⟩
          · have hu : Hid ((#[Value.int .i64 3] : Array Value).toList = [.int .i64 (g k q)]) := by rw [hv]; rfl
            have t0 : f0 (g k q) = true := by rw [hv]; decide
            have t1 : f1 (g k q) = true := by rw [hv]; decide
            clear hv
            go_wp2_with (at_builtin; refine wpList_push _ rfl (.tmp 41) (.tmp 43) 23 rfl B0 3 1 8 (.int .i64 0) #[.int .i64 3] Try.underlying23 intInfo rfl (by decide) _ q _ rfl hrow hs2 _ rfl rfl hu.out rfl rfl (by omega) (by omega) ?_)
            intro v' w7 hrow4 hbr4 _ _
            have hbr5 := hbr.trans hbr4
            clear hrow hbr hbr4 hbw
            go_wp2
            go_roundg (L k - (q + 1))
            case measure => omega
            case rel => exact ⟨q + 1, by omega, rfl, by go_num, hrow4, hbr5⟩
        · have : q = L k := by omega
          subst this
          have hrowA : wr.cell? ⟨b, o + k, none⟩ = some (.slice Ak (L k) (CA k)) := (hbw.cell hb).trans HAc.out
          obtain ⟨A1, c1, rfl, _, _, _, _⟩ := hrow.rd
          have hownB := (hown.kept (by rw [← HB0.out]; exact hbr)).next A1 c1
          have hrow' : Own wr w.heap.size 3 1 (.slice (upd S k A1 k) (L k) (upd C k c1 k)) (L k) (fun j => [.int .i64 (g k j)]) := by
            rw [upd_at, upd_at]; exact hrow.mono hsz
          have hu : Hid ((#[Value.slice A1 (L k) c1] : Array Value).toList = [.slice (upd S k A1 k) (L k) (upd C k c1 k)]) := by rw [upd_at, upd_at]; rfl
          have hbel1 := hbw
          have hsz1 := hbel1.size
          clear hown hrow hbr hbel hbw
          go_wp2_with (at_builtin; refine wpList_push _ rfl (.tmp 45) (.tmp 47) 22 rfl w.heap.size 23 1 24 (.slice none 0 0) #[.slice A1 (L k) c1] Try.underlying22 intsInfo rfl (by decide) _ k _ rfl hownB.1 hsz1 _ rfl rfl hu.out rfl rfl (by omega) (by omega) ?_)
          intro v' w7 hown4 hbel4 hg4 _
          have hO := hownB.push (by decide) hrow' hown4 hg4
          have hbelF := hbel1.trans hbel4
          clear hownB hrow' hown4 hg4 hbel4 hbel1
          go_wp2
          go_roundg (n - (k + 1))
          case measure => omega
          case rel => exact ⟨k + 1, _, _, by omega, rfl, by go_num, hO, hbelF⟩
    · have : k = n := by omega
      subst this
      go_wp2
      go_ret
      exact ⟨_, _, _, rfl, hown, hbel⟩

theorem RdM.conv {w : World} {A : Option Addr} {n : Nat} {L L' : Nat → Nat} {f g : Nat → Nat → Value} (h : RdM w A n L' g) (hl : ∀ i, i < n → L i = L' i) (e : ∀ i, i < n → ∀ j, j < L i → f i j = g i j) : RdM w A n L f := by
  obtain ⟨S, C, h1, h2⟩ := h
  exact ⟨S, C, h1.congr fun i hi => by rw [hl i hi], fun i hi => by rw [hl i hi]; exact (h2 i hi).congr fun j hj => (e i hi j (by rw [hl i hi]; exact hj)).symm⟩
theorem alike_row {m : Nat} {l k : Nat} (h : m = l - k) (hk : k < l) : 0 < m := by omega
set_option maxRecDepth 20000 in
set_option maxHeartbeats 2000000 in
theorem alike_any (A B : Option Addr) (n c c' : Nat) (L : Nat → Nat) (g : Nat → Nat → Nat) (w : World) (hn : n ≤ 1000000) (hL : ∀ i, i < n → L i ≤ 1000000) (hA : MI w A n L g) (hB : MI w B n L g) :
    Calls Try.prog 72 #[.slice A n c, .slice B n c'] w fun e w' => e = .returned (.bool true) ∧ Dr w w' := by
  obtain ⟨SA, CA, hA1, hA2⟩ := hA
  obtain ⟨SB, CB, hB1, hB2⟩ := hB
  have HL := Lib.hid hL; clear hL
  go_enter Try.func72, Try.ntmps72
  go_wp2
  go_loopg [5, 6] n (fun gk i _ wr => ∃ k : Nat, k ≤ n ∧ gk = n - k ∧ i = .int .i64 k ∧ Dr w wr)
  case atStart => exact ⟨0, Nat.zero_le _, rfl, rfl, Dr.refl _⟩
  case round =>
    obtain ⟨k, hk, rfl, rfl, hw⟩ := hrel
    by_cases hlt : k < n
    · obtain ⟨b, o, rfl, hb, hc⟩ := hA1 k hlt
      obtain ⟨b', o', rfl, hb', hc'⟩ := hB1 k hlt
      have hrA := hA2 k hlt
      have hrB := hB2 k hlt
      have hLk := HL.out k hlt
      replace hc : w.cell? ⟨b, o + k, none⟩ = some (.slice (SA k) (L k) (CA k)) := hc
      replace hc' : w.cell? ⟨b', o' + k, none⟩ = some (.slice (SB k) (L k) (CB k)) := hc'
      clear hA2 hA1 hB1 hB2
      generalize SA k = Ak at *
      generalize SB k = Bk at *
      have x1 : wr.cell? ⟨b, o + k, none⟩ = some (.slice Ak (L k) (CA k)) := (hw.cell _).trans hc
      have x2 : wr.cell? ⟨b', o' + k, none⟩ = some (.slice Bk (L k) (CB k)) := (hw.cell _).trans hc'
      have HA := Lib.hid hc; have HB := Lib.hid hc'
      have e1 : ((L k : Int) != (L k : Int)) = false := by simp
      clear hc hc'
      go_wp2
      go_quiet (fail)
      go_wp2
      go_loopg [6] (L k) (fun gk j w5 => ∃ q : Nat, q ≤ L k ∧ gk = L k - q ∧ j = .int .i64 q ∧ Dr w w5)
      case atStart => exact ⟨0, Nat.zero_le _, rfl, rfl, hw.drewN _⟩
      case round =>
        clear hw x1 x2
        obtain ⟨q, hq, rfl, rfl, hw⟩ := hrel
        have x1 : wr.cell? ⟨b, o + k, none⟩ = some (.slice Ak (L k) (CA k)) := (hw.cell _).trans HA.out
        have x2 : wr.cell? ⟨b', o' + k, none⟩ = some (.slice Bk (L k) (CB k)) := (hw.cell _).trans HB.out
        by_cases hlq : q < L k
        · obtain ⟨b1, o1, rfl, _, hc1⟩ := hw.rd hrA q hlq
          obtain ⟨b2, o2, rfl, _, hc2⟩ := hw.rd hrB q hlq
          have e2 : ((g k q : Int) != (g k q : Int)) = false := by simp
          go_wp2
          go_quiet (fail)
          go_wp2
          go_roundg (L k - (q + 1))
          case measure => omega
          case rel => exact ⟨q + 1, by omega, rfl, by go_num, hw.drewN _⟩
        · have : q = L k := by omega
          subst this
          go_wp2
          go_roundg (n - (k + 1))
          case measure => omega
          case rel => exact ⟨k + 1, by omega, rfl, by go_num, hw⟩
    · have : k = n := by omega
      subst this
      go_wp2
      go_ret
      exact ⟨rfl, hw⟩

def Okr (L : Nat → Nat) (k : Nat) : Prop := ∀ i, i < k → L i = L 0 ∧ L i ≤ 255
theorem fault_not {n : Nat} {L : Nat → Nat} {k : Nat} (hk : k < n) (h : ¬ (L k = L 0 ∧ L k ≤ 255)) : decide (faultE n L = 0) = false := decide_eq_false fun h0 => h ⟨(faultE_ok h0).2.2 k hk, (faultE_ok h0).2.1 k hk⟩
set_option maxRecDepth 20000 in
set_option maxHeartbeats 1000000 in
theorem right_any (A : Option Addr) (n c : Nat) (L : Nat → Nat) (w : World) (hn : n ≤ 9223372036854775807) (hL : ∀ i, i < n → L i ≤ 9223372036854775807) (hA : Top w A n L) :
    Calls Try.prog 68 #[.slice A n c] w fun e w' => e = .returned (.bool (decide (faultE n L = 0))) ∧ Dr w w' := by
  obtain ⟨SA, CA, hA1⟩ := hA
  by_cases hb : 255 < n
  · have HE : Hid (decide (faultE n L = 0) = false) := decide_eq_false (by rw [fault_big hb]; decide)
    clear hL hA1
    rw [HE.out]
    go_enter Try.func68, Try.ntmps68
    go_wp2
    go_ret
    exact ⟨rfl, Dr.refl _⟩
  · have hn5 : n ≤ 255 := by omega
    clear hb
    have HA := Lib.hid hA1; have HL := Lib.hid hL; clear hA1 hL
    go_enter Try.func68, Try.ntmps68
    go_wp2
    go_loopg [3] n (fun gk i wr => ∃ k : Nat, k ≤ n ∧ gk = n - k ∧ i = .int .i64 k ∧ Okr L k ∧ Dr w wr)
    case atStart => exact ⟨0, Nat.zero_le _, rfl, rfl, fun i hi => absurd hi (by omega), Dr.refl _⟩
    case round =>
      obtain ⟨k, hk, rfl, rfl, hok, hw⟩ := hrel
      have HK := Lib.hid hok; clear hok
      by_cases hlt : k < n
      · obtain ⟨b, o, rfl, hb, hc⟩ := HA.out k hlt
        obtain ⟨b', o', hbo, _, hc0⟩ := HA.out 0 (by omega)
        injection hbo with hbo
        injection hbo with q1 q2 q3
        subst q1 q2
        clear q3
        have x1 : wr.cell? ⟨b, o + k, none⟩ = some (.slice (SA k) (L k) (CA k)) := (hw.cell _).trans hc
        have x2 : wr.cell? ⟨b, o + 0, none⟩ = some (.slice (SA 0) (L 0) (CA 0)) := (hw.cell _).trans hc0
        rw [Nat.add_zero] at x2
        clear hc hc0
        have hlk := HL.out k hlt
        have hl0 := HL.out 0 (by omega)
        have hst : L k = L 0 ∧ L k ≤ 255 → Hid (Okr L (k + 1)) := fun h i hi => by
          by_cases e : i = k
          · rw [e]; exact h
          · exact HK.out i (by omega)
        have hbad : ¬ (L k = L 0 ∧ L k ≤ 255) → Hid (decide (faultE n L = 0) = false) := fault_not hlt
        generalize L k = lk at *
        generalize L 0 = l0 at *
        by_cases e1 : lk = l0
        · subst e1
          have e2 : ((lk : Int) != (lk : Int)) = false := by simp
          by_cases e3 : lk ≤ 255
          · have HS := hst ⟨rfl, e3⟩
            have t1 : decide ((255 : Int) < (lk : Int)) = false := decide_eq_false (by omega)
            clear hst hbad
            go_wp2
            go_quiet (fail)
            go_wp2
            go_roundg (n - (k + 1))
            case measure => omega
            case rel => exact ⟨k + 1, by omega, rfl, by go_num, HS.out, hw.drewN _⟩
          · have HS := hbad (fun h => e3 h.2)
            have t1 : decide ((255 : Int) < (lk : Int)) = true := decide_eq_true (by omega)
            clear hst hbad
            go_wp2
            go_quiet (fail)
            go_wp2
            go_ret
            exact ⟨by rw [HS.out]; rfl, hw.drewN _⟩
        · have e2 : ((lk : Int) != (l0 : Int)) = true := by rw [bne_iff_ne]; omega
          have HS := hbad (fun h => e1 h.1)
          clear hst hbad e1
          go_wp2
          go_quiet (fail)
          go_wp2
          go_ret
          exact ⟨by rw [HS.out]; rfl, hw.drewN _⟩
      · have : k = n := by omega
        subst this
        have HS : Hid (decide (faultE k L = 0) = true) := decide_eq_true (fault_none hn5 (fun i hi => (HK.out i hi).2) fun i hi => (HK.out i hi).1)
        go_wp2
        go_ret
        exact ⟨by rw [HS.out]; rfl, hw⟩
set_option maxHeartbeats 400000 in
theorem wide_any (A : Option Addr) (n c : Nat) (L : Nat → Nat) (w : World) (hA : Top w A n L) :
    Calls Try.prog 71 #[.slice A n c] w fun e w' => e = .returned (.int .i64 (colsN n L : Nat)) ∧ w = w' := by
  obtain ⟨SA, CA, hA1⟩ := hA
  by_cases h0 : n = 0
  · subst h0
    clear hA1
    go_enter Try.func71, Try.ntmps71
    go_wp2
    go_ret
    exact ⟨rfl, rfl⟩
  · have hp : 0 < n := by omega
    obtain ⟨b, o, rfl, hb, hc⟩ := hA1 0 hp
    rw [Nat.add_zero] at hc
    replace hc : w.cell? ⟨b, o, none⟩ = some (.slice (SA 0) (L 0) (CA 0)) := hc
    have HE : Hid (colsN n L = L 0) := by unfold colsN; exact if_neg h0
    rw [HE.out]
    clear h0 hA1 HE
    generalize L 0 = l0 at *
    have t1 : ((n : Int) == 0) = false := by rw [beq_eq_false_iff_ne]; omega
    go_enter Try.func71, Try.ntmps71
    go_wp2
    go_ret
    exact ⟨rfl, rfl⟩
def idN (i j : Nat) : Nat := if i = j then 1 else 0
set_option maxRecDepth 20000 in
set_option maxHeartbeats 2000000 in
theorem unit_own (n : Nat) (w : World) (hn : n ≤ 1000000) :
    Calls Try.prog 70 #[.int .i64 (n : Nat)] w fun e w' => ∃ v S C, e = .returned v ∧ OwnQ w' w.heap.size 23 3 1 v n S C (fun _ => n) (fun i j => [.int .i64 (idN i j : Nat)]) ∧ Below w.heap.size w w' := by
  go_enter Try.func70, Try.ntmps70
  go_wp2
  go_loopg [3, 4, 5, 6] n (fun gk v i _ _ wr => ∃ (k : Nat) (S : Nat → Option Addr) (C : Nat → Nat), k ≤ n ∧ gk = n - k ∧ i = .int .i64 k ∧ OwnQ wr w.heap.size 23 3 1 v k S C (fun _ => n) (fun i j => [.int .i64 (idN i j : Nat)]) ∧ Below w.heap.size w wr)
  case atStart => exact ⟨0, fun _ => none, fun _ => 0, Nat.zero_le _, rfl, rfl, OwnQ.nil _ _ _ _ _ _ _ _ _, Below.refl _ _⟩
  case round =>
    obtain ⟨k, S, C, hk, rfl, rfl, hown, hbel⟩ := hrel
    have hsz := hbel.size
    by_cases hlt : k < n
    · obtain ⟨W0, hW0⟩ : ∃ W0, W0 = wr := ⟨_, rfl⟩
      have hbr : Below W0.heap.size W0 wr := by rw [hW0]; exact Below.refl _ _
      rw [← hW0] at hown hbel hsz
      clear hW0
      obtain ⟨B0, hB0⟩ : ∃ B0, B0 = W0.heap.size := ⟨_, rfl⟩
      rw [← hB0] at hsz hbr
      have HB0 := Lib.hid hB0; clear hB0
      have hsB := hbr.size
      rw [← HB0.out] at hsB
      go_wp2
      go_loopg [5, 6] n (fun gk l j w5 => ∃ q : Nat, q ≤ n ∧ gk = n - q ∧ j = .int .i64 q ∧ Own w5 B0 3 1 l q (fun j => [.int .i64 (idN k j : Nat)]) ∧ Below B0 W0 w5)
      case atStart => exact ⟨0, Nat.zero_le _, rfl, rfl, Own.nil _ _ _ _ _, hbr⟩
      case round =>
        clear hbr hsB
        obtain ⟨q, hq, rfl, rfl, hrow, hbr⟩ := hrel
        have hbw := hbel.trans (hbr.mono hsz)
        have hs2 := hbr.size
        rw [← HB0.out] at hs2
        by_cases hlq : q < n
        · by_cases ekq : k = q
          · have hu : Hid ((#[Value.int .i64 1] : Array Value).toList = [.int .i64 (idN k q : Nat)]) := by unfold idN; rw [if_pos ekq]; rfl
            have t1 : ((k : Int) == (q : Int)) = true := by rw [beq_iff_eq]; omega
            clear ekq
            go_wp2_with (at_builtin; refine wpList_push _ rfl (.tmp 20) (.tmp 21) 23 rfl B0 3 1 8 (.int .i64 0) #[.int .i64 1] Try.underlying23 intInfo rfl (by decide) _ q _ rfl hrow hs2 _ rfl rfl hu.out rfl rfl (by omega) (by omega) ?_)
            intro v' w7 hrow4 hbr4 _ _
            have hbr5 := hbr.trans hbr4
            clear hrow hbr hbr4 hbw t1
            go_wp2
            go_roundg (n - (q + 1))
            case measure => omega
            case rel => exact ⟨q + 1, by omega, rfl, by go_num, hrow4, hbr5⟩
          · have hu : Hid ((#[Value.int .i64 0] : Array Value).toList = [.int .i64 (idN k q : Nat)]) := by unfold idN; rw [if_neg ekq]; rfl
            have t1 : ((k : Int) == (q : Int)) = false := by rw [beq_eq_false_iff_ne]; omega
            clear ekq
            go_wp2_with (at_builtin; refine wpList_push _ rfl (.tmp 23) (.tmp 24) 23 rfl B0 3 1 8 (.int .i64 0) #[.int .i64 0] Try.underlying23 intInfo rfl (by decide) _ q _ rfl hrow hs2 _ rfl rfl hu.out rfl rfl (by omega) (by omega) ?_)
            intro v' w7 hrow4 hbr4 _ _
            have hbr5 := hbr.trans hbr4
            clear hrow hbr hbr4 hbw t1
            go_wp2
            go_roundg (n - (q + 1))
            case measure => omega
            case rel => exact ⟨q + 1, by omega, rfl, by go_num, hrow4, hbr5⟩
        · have : q = n := by omega
          subst this
          obtain ⟨A1, c1, rfl, _, _, _, _⟩ := hrow.rd
          have hownB := (hown.kept (by rw [← HB0.out]; exact hbr)).next A1 c1
          have hrow' : Own wr w.heap.size 3 1 (.slice (upd S k A1 k) q (upd C k c1 k)) q (fun j => [.int .i64 (idN k j : Nat)]) := by
            rw [upd_at, upd_at]; exact hrow.mono hsz
          have hu : Hid ((#[Value.slice A1 q c1] : Array Value).toList = [.slice (upd S k A1 k) q (upd C k c1 k)]) := by rw [upd_at, upd_at]; rfl
          have hbel1 := hbw
          have hsz1 := hbel1.size
          clear hown hrow hbr hbel hbw
          go_wp2_with (at_builtin; refine wpList_push _ rfl (.tmp 26) (.tmp 28) 22 rfl w.heap.size 23 1 24 (.slice none 0 0) #[.slice A1 q c1] Try.underlying22 intsInfo rfl (by decide) _ k _ rfl hownB.1 hsz1 _ rfl rfl hu.out rfl rfl (by omega) (by omega) ?_)
          intro v' w7 hown4 hbel4 hg4 _
          have hO := hownB.push (by decide) hrow' hown4 hg4
          have hbelF := hbel1.trans hbel4
          clear hownB hrow' hown4 hg4 hbel4 hbel1
          go_wp2
          go_roundg (q - (k + 1))
          case measure => omega
          case rel => exact ⟨k + 1, _, _, by omega, rfl, by go_num, hO, hbelF⟩
    · have : k = n := by omega
      subst this
      go_wp2
      go_ret
      exact ⟨_, _, _, rfl, hown, hbel⟩
theorem unit_any {s : Nat} {F : Fd (Fin s)} (ok : FdOk s F) (n : Nat) (w : World) (hn : n ≤ 1000000) :
    Calls Try.prog 70 #[.int .i64 (n : Nat)] w fun e w' => ∃ A c, e = .returned (.slice A n c) ∧ MI w' A n (fun _ => n) (fun i j => (F.idm i j).val) ∧ Below w.heap.size w w' :=
  (unit_own n w hn).mono fun e w' ⟨v, S, C, he, hO, hb⟩ => by
    obtain ⟨A, c, rfl, _, _, hM⟩ := hO.rdm
    refine ⟨A, c, he, ?_, hb⟩
    have : (fun i j => (F.idm i j).val) = idN := by
      funext i j
      unfold Fd.idm idN
      by_cases e : i = j
      · rw [if_pos e, if_pos e]; exact ok.one
      · rw [if_neg e, if_neg e]; exact ok.zero
    rw [this]; exact hM
end Go.Proofs.Ytpocjpodeahanaa
