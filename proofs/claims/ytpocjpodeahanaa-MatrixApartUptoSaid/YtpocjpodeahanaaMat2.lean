/- Walks of fault and columns, the program's over three fields and the document's. Conditions: none. -/
import Derived.Test.YtpocjpodeahanaaMat1
namespace Go.Proofs.Ytpocjpodeahanaa
open Go.RowKit

/-- Is one of the first k lengths another than the first? -/
def ragB (L : Nat → Nat) (k : Nat) : Bool := (List.range k).any fun i => L i != L 0
theorem ragB_succ (L : Nat → Nat) (k : Nat) : ragB L (k + 1) = (ragB L k || (L k != L 0)) := by unfold ragB; rw [List.range_succ, List.any_append]; simp
theorem faultE_end {n : Nat} {L : Nat → Nat} (hn : n ≤ 255) (hl : ∀ i, i < n → L i ≤ 255) : faultE n L = if ragB L n then 30 else 0 := by
  unfold faultE
  rw [if_neg (by omega), if_pos (List.all_eq_true.2 fun i hi => by simpa using hl i (List.mem_range.1 hi))]
  have : (List.range n).all (fun i => L i == L 0) = !ragB L n := by unfold ragB; rw [List.not_any_eq_all_not]; congr 1; funext i; simp [bne]
  rw [this]; cases ragB L n <;> rfl
theorem le_next {L : Nat → Nat} {k b : Nat} (h : ∀ j, j < k → L j ≤ b) (hk : L k ≤ b) : ∀ j, j < k + 1 → L j ≤ b := fun j hj => by
  rcases Nat.lt_or_ge j k with h' | h'
  · exact h j h'
  · have : j = k := by omega
    subst this; exact hk
def colsN (n : Nat) (L : Nat → Nat) : Nat := if n = 0 then 0 else L 0

set_option maxHeartbeats 800000 in
theorem faultE_any (A : Option Addr) (n c : Nat) (L : Nat → Nat) (w : World) (hn : n ≤ 9223372036854775807) (hL : ∀ i, i < n → L i ≤ 9223372036854775807) (hT : Top w A n L) :
    Calls Try.prog 83 #[.slice A n c] w fun e w' => e = .returned (.int .i64 (faultE n L)) ∧ w = w' := by
  obtain ⟨S, C, hA⟩ := hT
  by_cases hbig : 255 < n
  · rw [fault_big hbig]
    go_enter Try.func83, Try.ntmps83
    go_wp2
    go_ret
    exact ⟨rfl, rfl⟩
  · go_enter Try.func83, Try.ntmps83
    go_wp2
    go_loopg [3, 5, 11] n (fun g r _ i wr => wr = w ∧ ∃ k : Nat, k ≤ n ∧ g = n - k ∧ i = .int .i64 k ∧ r = .bool (ragB L k) ∧ ∀ j, j < k → L j ≤ 255)
    case atStart => exact ⟨rfl, 0, Nat.zero_le _, rfl, rfl, rfl, fun j hj => absurd hj (by omega)⟩
    case round =>
      obtain ⟨rfl, k, hk, rfl, rfl, rfl, hl⟩ := hrel
      have HL := Lib.hid hl; clear hl
      by_cases hlt : k < n
      · have h0 := hA 0 (by omega)
        obtain ⟨b, o, rfl, _, hc⟩ := hA k hlt
        obtain ⟨b', o', e1, _, hc0⟩ := h0
        injection e1 with e1; injection e1 with e1 e2; subst e1 e2
        have hc0' : wr.cell? ⟨b, o, none⟩ = some (.slice (S 0) (L 0) (C 0)) := by simpa using hc0
        have hLk := hL k hlt
        have hL0 := hL 0 (by omega)
        clear hc0 hL
        by_cases hlong : 255 < L k
        · go_wp2
          go_ret
          exact ⟨ret_int (fault_long k hlt hlong).symm, rfl⟩
        · by_cases hr : ragB L k = true
          · go_wp2
            go_roundg (n - (k + 1))
            case measure => omega
            case rel => exact ⟨rfl, k + 1, by omega, rfl, by go_num, by rw [ragB_succ, hr]; rfl, le_next HL.out (by omega)⟩
          · have hr' : ragB L k = false := by simpa using hr
            clear hr
            by_cases hne : L k = L 0
            · have t1 : ((L k : Int) != (L 0 : Int)) = false := by simp [hne]
              have HN := Lib.hid hne; clear hne
              go_wp2
              go_roundg (n - (k + 1))
              case measure => omega
              case rel => exact ⟨rfl, k + 1, by omega, rfl, by go_num, by rw [ragB_succ, hr', HN.out]; simp, le_next HL.out (by omega)⟩
            · have t1 : ((L k : Int) != (L 0 : Int)) = true := by rw [bne_iff_ne]; omega
              have HN := Lib.hid hne; clear hne
              go_wp2
              go_roundg (n - (k + 1))
              case measure => omega
              case rel => exact ⟨rfl, k + 1, by omega, rfl, by go_num, by rw [ragB_succ, hr']; simp [HN.out], le_next HL.out (by omega)⟩
      · have : k = n := by omega
        subst this
        go_wp2
        all_goals go_ret
        all_goals refine ⟨ret_int ?_, rfl⟩
        all_goals rw [faultE_end (by omega) HL.out]
        · rw [if_pos (by assumption)]
        · rw [if_neg (by simp_all)]
theorem columnsE_any (A : Option Addr) (n c : Nat) (L : Nat → Nat) (w : World) (hT : Top w A n L) :
    Calls Try.prog 88 #[.slice A n c] w fun e w' => e = .returned (.int .i64 (colsN n L)) ∧ w = w' := by
  obtain ⟨S, C, hA⟩ := hT
  by_cases h : n = 0
  · subst h
    go_enter Try.func88, Try.ntmps88
    go_wp2
    go_ret
    exact ⟨rfl, rfl⟩
  · obtain ⟨b, o, rfl, _, hc⟩ := hA 0 (by omega)
    have hc0 : w.cell? ⟨b, o, none⟩ = some (.slice (S 0) (L 0) (C 0)) := by simpa using hc
    have h0 : ((n : Int) == 0) = false := by rw [beq_eq_false_iff_ne]; omega
    have hp : 0 < n := by omega
    clear hc
    go_enter Try.func88, Try.ntmps88
    go_wp2
    go_ret
    exact ⟨ret_int (by unfold colsN; rw [if_neg h]), rfl⟩

set_option maxHeartbeats 800000 in
theorem faultB_any (A : Option Addr) (n c : Nat) (L : Nat → Nat) (w : World) (hn : n ≤ 9223372036854775807) (hL : ∀ i, i < n → L i ≤ 9223372036854775807) (hT : Top w A n L) :
    Calls Try.prog 84 #[.slice A n c] w fun e w' => e = .returned (.int .i64 (faultE n L)) ∧ w = w' := by
  obtain ⟨S, C, hA⟩ := hT
  by_cases hbig : 255 < n
  · rw [fault_big hbig]
    go_enter Try.func84, Try.ntmps84
    go_wp2
    go_ret
    exact ⟨rfl, rfl⟩
  · go_enter Try.func84, Try.ntmps84
    go_wp2
    go_loopg [3, 5, 11] n (fun g r _ i wr => wr = w ∧ ∃ k : Nat, k ≤ n ∧ g = n - k ∧ i = .int .i64 k ∧ r = .bool (ragB L k) ∧ ∀ j, j < k → L j ≤ 255)
    case atStart => exact ⟨rfl, 0, Nat.zero_le _, rfl, rfl, rfl, fun j hj => absurd hj (by omega)⟩
    case round =>
      obtain ⟨rfl, k, hk, rfl, rfl, rfl, hl⟩ := hrel
      have HL := Lib.hid hl; clear hl
      by_cases hlt : k < n
      · have h0 := hA 0 (by omega)
        obtain ⟨b, o, rfl, _, hc⟩ := hA k hlt
        obtain ⟨b', o', e1, _, hc0⟩ := h0
        injection e1 with e1; injection e1 with e1 e2; subst e1 e2
        have hc0' : wr.cell? ⟨b, o, none⟩ = some (.slice (S 0) (L 0) (C 0)) := by simpa using hc0
        have hLk := hL k hlt
        have hL0 := hL 0 (by omega)
        clear hc0 hL
        by_cases hlong : 255 < L k
        · go_wp2
          go_ret
          exact ⟨ret_int (fault_long k hlt hlong).symm, rfl⟩
        · by_cases hr : ragB L k = true
          · go_wp2
            go_roundg (n - (k + 1))
            case measure => omega
            case rel => exact ⟨rfl, k + 1, by omega, rfl, by go_num, by rw [ragB_succ, hr]; rfl, le_next HL.out (by omega)⟩
          · have hr' : ragB L k = false := by simpa using hr
            clear hr
            by_cases hne : L k = L 0
            · have t1 : ((L k : Int) != (L 0 : Int)) = false := by simp [hne]
              have HN := Lib.hid hne; clear hne
              go_wp2
              go_roundg (n - (k + 1))
              case measure => omega
              case rel => exact ⟨rfl, k + 1, by omega, rfl, by go_num, by rw [ragB_succ, hr', HN.out]; simp, le_next HL.out (by omega)⟩
            · have t1 : ((L k : Int) != (L 0 : Int)) = true := by rw [bne_iff_ne]; omega
              have HN := Lib.hid hne; clear hne
              go_wp2
              go_roundg (n - (k + 1))
              case measure => omega
              case rel => exact ⟨rfl, k + 1, by omega, rfl, by go_num, by rw [ragB_succ, hr']; simp [HN.out], le_next HL.out (by omega)⟩
      · have : k = n := by omega
        subst this
        go_wp2
        all_goals go_ret
        all_goals refine ⟨ret_int ?_, rfl⟩
        all_goals rw [faultE_end (by omega) HL.out]
        · rw [if_pos (by assumption)]
        · rw [if_neg (by simp_all)]
theorem columnsB_any (A : Option Addr) (n c : Nat) (L : Nat → Nat) (w : World) (hT : Top w A n L) :
    Calls Try.prog 89 #[.slice A n c] w fun e w' => e = .returned (.int .i64 (colsN n L)) ∧ w = w' := by
  obtain ⟨S, C, hA⟩ := hT
  by_cases h : n = 0
  · subst h
    go_enter Try.func89, Try.ntmps89
    go_wp2
    go_ret
    exact ⟨rfl, rfl⟩
  · obtain ⟨b, o, rfl, _, hc⟩ := hA 0 (by omega)
    have hc0 : w.cell? ⟨b, o, none⟩ = some (.slice (S 0) (L 0) (C 0)) := by simpa using hc
    have h0 : ((n : Int) == 0) = false := by rw [beq_eq_false_iff_ne]; omega
    have hp : 0 < n := by omega
    clear hc
    go_enter Try.func89, Try.ntmps89
    go_wp2
    go_ret
    exact ⟨ret_int (by unfold colsN; rw [if_neg h]), rfl⟩

set_option maxHeartbeats 800000 in
theorem faultF_any (A : Option Addr) (n c : Nat) (L : Nat → Nat) (w : World) (hn : n ≤ 9223372036854775807) (hL : ∀ i, i < n → L i ≤ 9223372036854775807) (hT : Top w A n L) :
    Calls Try.prog 85 #[.slice A n c] w fun e w' => e = .returned (.int .i64 (faultE n L)) ∧ w = w' := by
  obtain ⟨S, C, hA⟩ := hT
  by_cases hbig : 255 < n
  · rw [fault_big hbig]
    go_enter Try.func85, Try.ntmps85
    go_wp2
    go_ret
    exact ⟨rfl, rfl⟩
  · go_enter Try.func85, Try.ntmps85
    go_wp2
    go_loopg [3, 5, 11] n (fun g r _ i wr => wr = w ∧ ∃ k : Nat, k ≤ n ∧ g = n - k ∧ i = .int .i64 k ∧ r = .bool (ragB L k) ∧ ∀ j, j < k → L j ≤ 255)
    case atStart => exact ⟨rfl, 0, Nat.zero_le _, rfl, rfl, rfl, fun j hj => absurd hj (by omega)⟩
    case round =>
      obtain ⟨rfl, k, hk, rfl, rfl, rfl, hl⟩ := hrel
      have HL := Lib.hid hl; clear hl
      by_cases hlt : k < n
      · have h0 := hA 0 (by omega)
        obtain ⟨b, o, rfl, _, hc⟩ := hA k hlt
        obtain ⟨b', o', e1, _, hc0⟩ := h0
        injection e1 with e1; injection e1 with e1 e2; subst e1 e2
        have hc0' : wr.cell? ⟨b, o, none⟩ = some (.slice (S 0) (L 0) (C 0)) := by simpa using hc0
        have hLk := hL k hlt
        have hL0 := hL 0 (by omega)
        clear hc0 hL
        by_cases hlong : 255 < L k
        · go_wp2
          go_ret
          exact ⟨ret_int (fault_long k hlt hlong).symm, rfl⟩
        · by_cases hr : ragB L k = true
          · go_wp2
            go_roundg (n - (k + 1))
            case measure => omega
            case rel => exact ⟨rfl, k + 1, by omega, rfl, by go_num, by rw [ragB_succ, hr]; rfl, le_next HL.out (by omega)⟩
          · have hr' : ragB L k = false := by simpa using hr
            clear hr
            by_cases hne : L k = L 0
            · have t1 : ((L k : Int) != (L 0 : Int)) = false := by simp [hne]
              have HN := Lib.hid hne; clear hne
              go_wp2
              go_roundg (n - (k + 1))
              case measure => omega
              case rel => exact ⟨rfl, k + 1, by omega, rfl, by go_num, by rw [ragB_succ, hr', HN.out]; simp, le_next HL.out (by omega)⟩
            · have t1 : ((L k : Int) != (L 0 : Int)) = true := by rw [bne_iff_ne]; omega
              have HN := Lib.hid hne; clear hne
              go_wp2
              go_roundg (n - (k + 1))
              case measure => omega
              case rel => exact ⟨rfl, k + 1, by omega, rfl, by go_num, by rw [ragB_succ, hr']; simp [HN.out], le_next HL.out (by omega)⟩
      · have : k = n := by omega
        subst this
        go_wp2
        all_goals go_ret
        all_goals refine ⟨ret_int ?_, rfl⟩
        all_goals rw [faultE_end (by omega) HL.out]
        · rw [if_pos (by assumption)]
        · rw [if_neg (by simp_all)]
theorem columnsF_any (A : Option Addr) (n c : Nat) (L : Nat → Nat) (w : World) (hT : Top w A n L) :
    Calls Try.prog 90 #[.slice A n c] w fun e w' => e = .returned (.int .i64 (colsN n L)) ∧ w = w' := by
  obtain ⟨S, C, hA⟩ := hT
  by_cases h : n = 0
  · subst h
    go_enter Try.func90, Try.ntmps90
    go_wp2
    go_ret
    exact ⟨rfl, rfl⟩
  · obtain ⟨b, o, rfl, _, hc⟩ := hA 0 (by omega)
    have hc0 : w.cell? ⟨b, o, none⟩ = some (.slice (S 0) (L 0) (C 0)) := by simpa using hc
    have h0 : ((n : Int) == 0) = false := by rw [beq_eq_false_iff_ne]; omega
    have hp : 0 < n := by omega
    clear hc
    go_enter Try.func90, Try.ntmps90
    go_wp2
    go_ret
    exact ⟨ret_int (by unfold colsN; rw [if_neg h]), rfl⟩

theorem rcolumns_any (A : Option Addr) (n c : Nat) (L : Nat → Nat) (w : World) (hT : Top w A n L) :
    Calls Try.prog 87 #[.slice A n c] w fun e w' => e = .returned (.int .i64 (colsN n L)) ∧ w = w' := by
  obtain ⟨S, C, hA⟩ := hT
  by_cases h : n = 0
  · subst h
    go_enter Try.func87, Try.ntmps87
    go_wp2
    go_ret
    exact ⟨rfl, rfl⟩
  · obtain ⟨b, o, rfl, _, hc⟩ := hA 0 (by omega)
    have hc0 : w.cell? ⟨b, o, none⟩ = some (.slice (S 0) (L 0) (C 0)) := by simpa using hc
    have h0 : ((n : Int) == 0) = false := by rw [beq_eq_false_iff_ne]; omega
    have hp : 0 < n := by omega
    clear hc
    go_enter Try.func87, Try.ntmps87
    go_wp2
    go_ret
    exact ⟨ret_int (by unfold colsN; rw [if_neg h]), rfl⟩

set_option maxHeartbeats 800000 in
theorem rfault_any (A : Option Addr) (n c : Nat) (L : Nat → Nat) (w : World) (hn : n ≤ 9223372036854775807) (hL : ∀ i, i < n → L i ≤ 9223372036854775807) (hT : Top w A n L) :
    Calls Try.prog 82 #[.slice A n c] w fun e w' => e = .returned (.int .i64 (faultE n L)) ∧ Dr w w' := by
  obtain ⟨S, C, hA⟩ := hT
  by_cases hbig : 255 < n
  · rw [fault_big hbig]
    go_enter Try.func82, Try.ntmps82
    go_wp2
    go_ret
    exact ⟨rfl, Dr.refl _⟩
  · go_enter Try.func82, Try.ntmps82
    go_wp2
    go_loopg [3] n (fun g i wr => wr = w ∧ ∃ k : Nat, k ≤ n ∧ g = n - k ∧ i = .int .i64 k ∧ ∀ j, j < k → L j ≤ 255)
    case atStart => exact ⟨rfl, 0, Nat.zero_le _, rfl, rfl, fun j hj => absurd hj (by omega)⟩
    case round =>
      obtain ⟨rfl, k, hk, rfl, rfl, hl⟩ := hrel
      have HL := Lib.hid hl; clear hl
      by_cases hlt : k < n
      · obtain ⟨b, o, rfl, _, hc⟩ := hA k hlt
        have hLk := hL k hlt
        clear hL
        by_cases hlong : 255 < L k
        · go_wp2
          go_ret
          exact ⟨ret_int (fault_long k hlt hlong).symm, Dr.refl _⟩
        · go_wp2
          go_roundg (n - (k + 1))
          case measure => omega
          case rel => exact ⟨rfl, k + 1, by omega, rfl, by go_num, le_next HL.out (by omega)⟩
      · have : k = n := by omega
        subst this
        go_wp2
        go_loopg [4] k (fun g i wr2 => Dr wr wr2 ∧ ∃ m : Nat, 1 ≤ m ∧ g = k + 1 - m ∧ i = .int .i64 m ∧ (m ≤ k ∨ m = 1) ∧ ragB L m = false)
        case atStart => exact ⟨Dr.refl _, 1, by omega, by omega, rfl, .inr rfl, by simp [ragB, List.range_succ]⟩
        case round =>
          obtain ⟨hd, m, hm, rfl, rfl, hmk, hr⟩ := hrel
          have HR := Lib.hid hr; clear hr
          by_cases hlt2 : m < k
          · have h0 := hd.rd hA 0 (by omega)
            obtain ⟨b, o, rfl, _, hc⟩ := hd.rd hA m hlt2
            obtain ⟨b', o', e1, _, hc0⟩ := h0
            injection e1 with e1; injection e1 with e1 e2; subst e1 e2
            have hc0' := hc0
            rw [Nat.add_zero] at hc0'
            clear hc0
            have hk0 : (0 : Int) < (k : Int) := by omega
            have hk0' : 0 < k := by omega
            have hLm := hL m hlt2
            have hL0 := hL 0 (by omega)
            clear hL
            by_cases hne : L m = L 0
            · have t1 : ((L m : Int) != (L 0 : Int)) = false := by simp [hne]
              have HN := Lib.hid hne; clear hne
              go_wp2
              go_quiet (fail)
              go_wp2
              go_roundg (k + 1 - (m + 1))
              case measure => omega
              case rel => exact ⟨hd.drewN _, m + 1, by omega, rfl, by go_num, .inl (by omega), by rw [ragB_succ, HR.out, HN.out]; simp⟩
            · have t1 : ((L m : Int) != (L 0 : Int)) = true := by rw [bne_iff_ne]; omega
              have HN := Lib.hid hne; clear hne
              go_wp2
              go_quiet (fail)
              go_wp2
              go_ret
              exact ⟨ret_int (fault_ragged (by omega) HL.out m hlt2 HN.out).symm, hd.drewN _⟩
          · go_wp2
            go_ret
            refine ⟨ret_int ?_, hd⟩
            rw [faultE_end (by omega) HL.out]
            have : ragB L k = false := by
              rcases Nat.lt_or_ge k m with h | h
              · have : k = 0 := by omega
                subst this; rfl
              · have : m = k := by omega
                subst this; exact HR.out
            rw [this]; rfl
end Go.Proofs.Ytpocjpodeahanaa
