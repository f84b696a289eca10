/- The document's Powers: the walk. Conditions: numbers below 256. -/
import Derived.Test.YtpocjpodeahanaaPow1
import Derived.Test.YtpocjpodeahanaaMem2
namespace Go.Proofs.Ytpocjpodeahanaa
open Go.RowKit

set_option maxRecDepth 20000 in
set_option maxHeartbeats 1000000 in
theorem rpow (s : Nat) (A : Option Addr) (n c cols one : Nat) (g : Nat → Nat) (w : World) (hn : n ≤ 255) (hcols : cols ≤ 255) (hpw : ∀ i, i < n → ∀ j, pw s one (g i) j < 256) (hg : ∀ i, i < n → g i < 256) (hA : Rd w A n fun i => .int .i64 (g i)) :
    Calls Try.prog 36 #[.int .i64 s, .slice A n c, .int .i64 cols, .int .i64 one] w fun e w' => ∃ v S C, e = .returned (.tuple #[v, .int .i64 0]) ∧
      OwnQ w' w.heap.size 23 3 1 v n S C (fun _ => cols) (fun i j => [.int .i64 (pw s one (g i) j)]) ∧ Below w.heap.size w w' := by
  have HG := Lib.hid hg; clear hg
  have HP := Lib.hid hpw; clear hpw
  go_enter Try.func36, Try.ntmps36
  go_wp2
  go_loopg [10, 11, 12, 13, 14] n (fun gk v i _ _ _ wr => ∃ (k : Nat) (S : Nat → Option Addr) (C : Nat → Nat), k ≤ n ∧ gk = n - k ∧ i = .int .i64 k ∧ OwnQ wr w.heap.size 23 3 1 v k S C (fun _ => cols) (fun i j => [.int .i64 (pw s one (g i) j)]) ∧ Below w.heap.size w wr)
  case atStart => exact ⟨0, fun _ => none, fun _ => 0, Nat.zero_le _, rfl, rfl, OwnQ.nil _ _ _ _ _ _ _ _ _, Below.refl _ _⟩
  case round =>
    obtain ⟨k, S, C, hk, rfl, rfl, hown, hbel⟩ := hrel
    have hsz := hbel.size
    by_cases hlt : k < n
    · obtain ⟨b, o, rfl, hb, hc⟩ := hA k hlt
      have hc' : wr.cell? ⟨b, o + k, none⟩ = some (.int .i64 (g k)) := (hbel.cell hb).trans hc
      have hbw : b < wr.heap.size := by omega
      clear hc
      go_wp2
      go_loopg [12, 13, 14] cols (fun gk v x j w2 => ∃ t : Nat, t ≤ cols ∧ gk = cols - t ∧ j = .int .i64 t ∧ x = .int .i64 (pw s one (g k) t) ∧ Own w2 wr.heap.size 3 1 v t (fun j => [.int .i64 (pw s one (g k) j)]) ∧ Below wr.heap.size wr w2)
      case atStart => exact ⟨0, Nat.zero_le _, rfl, rfl, rfl, Own.nil _ _ _ _ _, Below.refl _ _⟩
      case round =>
        obtain ⟨t, ht, rfl, rfl, rfl, hrow, hbr⟩ := hrel
        have hsr := hbr.size
        by_cases hlt2 : t < cols
        · have hp := HP.out k hlt t
          have hgk := HG.out k hlt
          go_wp2_with (at_builtin; refine wpList_push _ rfl (.tmp 36) (.tmp 38) 23 rfl _ 3 1 8 (.int .i64 0) #[.int .i64 (pw s one (g k) t)] Try.underlying23 intInfo rfl (by decide) _ t _ rfl hrow hsr _ rfl rfl rfl rfl rfl (by omega) (by omega) ?_)
          intro v' w4 hrow4 hb4 _ _
          have hbr4 := hbr.trans hb4
          have hc4 := (hbr4.cell hbw).trans hc'
          clear hrow hbr hb4
          go_wp2_with (go_at_call 86; (with_reducible refine (mul_any s _ _ _ hp hgk).mono ?_); rintro e w5 ⟨rfl, rfl⟩)
          go_roundg (cols - (t + 1))
          case measure => omega
          case rel => exact ⟨t + 1, by omega, rfl, by go_num, rfl, hrow4, hbr4⟩
        · have : t = cols := by omega
          subst this
          obtain ⟨A1, c1, rfl, _, _, _, _⟩ := hrow.rd
          have hownB := (hown.kept hbr).next A1 c1
          have hrow' : Own wr w.heap.size 3 1 (.slice (upd S k A1 k) t (upd C k c1 k)) t (fun j => [.int .i64 (pw s one (g k) j)]) := by rw [upd_at, upd_at]; exact hrow.mono hsz
          have hu : Hid ((#[Value.slice A1 t c1] : Array Value).toList = [.slice (upd S k A1 k) t (upd C k c1 k)]) := by rw [upd_at, upd_at]; rfl
          have hbel1 := hbel.trans (hbr.mono hsz)
          have hsz1 := hbel1.size
          clear hown hrow hbr hbel hc' HP
          go_wp2_with (at_builtin; refine wpList_push _ rfl (.tmp 47) (.tmp 49) 22 rfl w.heap.size 23 1 24 (.slice none 0 0) #[.slice A1 t c1] Try.underlying22 intsInfo rfl (by decide) _ k _ rfl hownB.1 hsz1 _ rfl rfl hu.out rfl rfl (by omega) (by omega) ?_)
          intro v' w4 hown4 hbel4 hg4 _
          have hO := hownB.push (by decide) hrow' hown4 hg4
          have hbelF := hbel1.trans hbel4
          clear hownB hrow' hown4 hg4 hbel4 hbel1
          go_wp2
          go_roundg (n - (k + 1))
          case measure => omega
          case rel => exact ⟨k + 1, _, _, by omega, rfl, by go_num, hO, hbelF⟩
    · have : k = n := by omega
      subst this
      go_wp2
      go_ret2
      exact ⟨_, _, _, rfl, hown, hbel⟩
end Go.Proofs.Ytpocjpodeahanaa
