/- Powers, the three of matrix: the walks. Conditions: numbers below the field's size. -/
import Derived.Test.YtpocjpodeahanaaMulR
import Derived.Test.YtpocjpodeahanaaZid
namespace Go.Proofs.Ytpocjpodeahanaa
open Go.RowKit

/-- The powers of a number, from one on. -/
def pw (s one p : Nat) : Nat → Nat
  | 0 => one
  | j + 1 => mulR s (pw s one p j) p
theorem pw_lt256 {one p : Nat} (h : one < 256) : ∀ j, pw 256 one p j < 256
  | 0 => h
  | j + 1 => mulR_lt256 (pw_lt256 h j)
/-- What is written when k rows and j numbers of the next are. -/
def pwc (z : Value) (k j : Nat) (g : Nat → Nat → Value) (i' j' : Nat) : Value := if i' < k ∨ (i' = k ∧ j' < j) then g i' j' else z
theorem pwc_next {z : Value} {k j i' j' : Nat} {g : Nat → Nat → Value} : (if i' = k ∧ j' = j then g k j else pwc z k j g i' j') = pwc z k (j + 1) g i' j' := by
  unfold pwc
  by_cases h1 : i' = k
  · subst h1
    by_cases h2 : j' = j
    · subst h2; simp
    · by_cases h3 : j' < j
      · simp [h2, h3, show j' < j + 1 by omega]
      · simp [h2, h3, show ¬ j' < j + 1 by omega]
  · simp [h1]

theorem pwc_row {z : Value} {k c i j : Nat} {g : Nat → Nat → Value} (hj : j < c) : pwc z k c g i j = pwc z (k + 1) 0 g i j := by
  unfold pwc
  by_cases h1 : i = k
  · subst h1; simp [hj]
  · by_cases h2 : i < k
    · simp [h2, show i < k + 1 by omega]
    · simp [h1, h2, show ¬ i < k + 1 by omega]

set_option maxRecDepth 20000 in
set_option maxHeartbeats 1000000 in
theorem powE (A : Option Addr) (n c cols one : Nat) (g : Nat → Nat) (w : World) (hn : n ≤ 255) (hcols : cols ≤ 255) (h1 : one < 256) (hg : ∀ i, i < n → g i < 256) (hA : Rd w A n fun i => .int .u8 (g i)) :
    Calls Try.prog 37 #[.slice A n c, .int .i64 cols, .int .u8 one] w fun e w' => ∃ b S, e = .returned (.tuple #[.slice (some ⟨b, 0, none⟩) n n, .int .i64 0]) ∧
      Mx w' w.heap.size b 62 34 n S cols cols (fun i j => .int .u8 (pw 256 one (g i) j)) ∧ Below w.heap.size w w' := by
  have HG := Lib.hid hg; clear hg
  go_enter Try.func37, Try.ntmps37
  go_wp2_with (go_at_call 79; (with_reducible refine (zerosE n cols _ (by omega) (by omega)).mono ?_); rintro e w1 ⟨rfl, hM, hbel⟩)
  go_loopg [9, 10, 11, 12, 28] n (fun gk _ _ _ _ i wr => ∃ k : Nat, k ≤ n ∧ gk = n - k ∧ i = .int .i64 k ∧ Below w.heap.size w wr ∧
    Mx wr w.heap.size w.heap.size 62 34 n (fun i => w.heap.size + 1 + i) cols cols (pwc (.int .u8 0) k 0 (fun i j => .int .u8 (pw 256 one (g i) j))))
  case atStart => exact ⟨0, Nat.zero_le _, rfl, rfl, hbel, hM.congr (by intro i j _ _; simp [pwc])⟩
  case round =>
    clear hM hbel
    obtain ⟨k, hk, rfl, rfl, hbel, hM⟩ := hrel
    by_cases hlt : k < n
    · have hrowk := hM.top.cell hlt
      obtain ⟨b, o, rfl, hb, hc⟩ := hA k hlt
      go_wp2
      clear hc hrowk
      have hc : w.cell? ⟨b, o + k, none⟩ = some (.int .u8 (g k)) := by
        obtain ⟨b', o', e1, _, hc⟩ := hA k hlt
        injection e1 with e1; injection e1 with e1 e2; subst e1 e2
        exact hc
      go_loopg [11, 12, 36] cols (fun gk now _ i w2 => ∃ j : Nat, j ≤ cols ∧ gk = cols - j ∧ i = .int .i64 j ∧ now = .int .u8 (pw 256 one (g k) j) ∧ Below w.heap.size w w2 ∧
        Mx w2 w.heap.size w.heap.size 62 34 n (fun i => w.heap.size + 1 + i) cols cols (pwc (.int .u8 0) k j (fun i j => .int .u8 (pw 256 one (g i) j))))
      case atStart => exact ⟨0, Nat.zero_le _, rfl, rfl, rfl, hbel, hM⟩
      case round =>
        clear hM hbel
        obtain ⟨j, hj, rfl, rfl, rfl, hbel, hM⟩ := hrel
        by_cases hlj : j < cols
        · have hst := (hM.row k hlt).cell hlj
          have hfz := (hM.row k hlt).frozen j
          have hpw : pw 256 one (g k) j < 256 := pw_lt256 h1 j
          have hgk := HG.out k hlt
          have hpn : pw 256 one (g k) (j + 1) = timesE (pw 256 one (g k) j) (g k) := mul256 hpw
          have hcr : ∀ v, (wr.setCell ⟨w.heap.size + 1 + k, j, none⟩ v).cell? ⟨b, o + k, none⟩ = some (.int .u8 (g k)) := fun v => (cell_set_ne v (by simp; omega)).trans ((hbel.cell hb).trans hc)
          have HN := Lib.hid hpn; clear hpn
          have HS := Lib.hid (hM.set hlt j (.int .u8 (pw 256 one (g k) j)))
          have hbs := Lib.hid (hbel.setCell (p := ⟨w.heap.size + 1 + k, j, none⟩) (by simp; omega) (.int .u8 (pw 256 one (g k) j)))
          go_wp2_with (go_at_call 133; (with_reducible refine (timesE_any _ _ _ hpw hgk).mono ?_); rintro e w4 ⟨rfl, rfl⟩)
          go_roundg (cols - (j + 1))
          case measure => omega
          case rel => exact ⟨j + 1, by omega, rfl, by go_num, by rw [HN.out], hbs.out, HS.out.congr fun i' j' _ _ => pwc_next (g := fun i j => .int .u8 (pw 256 one (g i) j))⟩
        · have : j = cols := by omega
          subst this
          go_wp2
          go_roundg (n - (k + 1))
          case measure => omega
          case rel => exact ⟨k + 1, by omega, rfl, by go_num, hbel, hM.congr fun i j _ hj => pwc_row hj⟩
    · have : k = n := by omega
      subst this
      go_wp2
      go_ret2
      exact ⟨_, _, rfl, hM.congr (by intro i j hi _; simp [hi, pwc]), hbel⟩
end Go.Proofs.Ytpocjpodeahanaa
