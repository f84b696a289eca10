/- Walks over matrices: numbers as elements, faults, columns. Conditions: numbers below the field's size; lengths that memory bears. -/
import Derived.Test.YtpocjpodeahanaaZid
import Derived.Test.YtpocjpodeahanaaMem2
namespace Go.Proofs.Ytpocjpodeahanaa
open Go.RowKit

/-- Matrices of numbers in memory, by field. -/
def ME (w : World) (A : Option Addr) (n : Nat) (L : Nat → Nat) (g : Nat → Nat → Nat) : Prop := RdM w A n L fun i j => .int .u8 (g i j)
def MB (w : World) (A : Option Addr) (n : Nat) (L : Nat → Nat) (g : Nat → Nat → Nat) : Prop := RdM w A n L fun i j => .bool (bB (g i j))
def MF (w : World) (A : Option Addr) (n : Nat) (L : Nat → Nat) (g : Nat → Nat → Nat) : Prop := RdM2 w A n L (fun i j => .bool (f0 (g i j))) (fun i j => .bool (f1 (g i j)))
def MI (w : World) (A : Option Addr) (n : Nat) (L : Nat → Nat) (g : Nat → Nat → Nat) : Prop := RdM w A n L fun i j => .int .i64 (g i j)
theorem ME.below {w w' : World} {A : Option Addr} {n : Nat} {L : Nat → Nat} {g : Nat → Nat → Nat} (h : ME w A n L g) (hb : Below w.heap.size w w') : ME w' A n L g := RdM.below h hb
theorem MB.below {w w' : World} {A : Option Addr} {n : Nat} {L : Nat → Nat} {g : Nat → Nat → Nat} (h : MB w A n L g) (hb : Below w.heap.size w w') : MB w' A n L g := RdM.below h hb
theorem MF.below {w w' : World} {A : Option Addr} {n : Nat} {L : Nat → Nat} {g : Nat → Nat → Nat} (h : MF w A n L g) (hb : Below w.heap.size w w') : MF w' A n L g := RdM2.below h hb
theorem MI.below {w w' : World} {A : Option Addr} {n : Nat} {L : Nat → Nat} {g : Nat → Nat → Nat} (h : MI w A n L g) (hb : Below w.heap.size w w') : MI w' A n L g := RdM.below h hb
/-- The rows' slices of a matrix, whatever its numbers. -/
def Top (w : World) (A : Option Addr) (n : Nat) (L : Nat → Nat) : Prop := ∃ (S : Nat → Option Addr) (C : Nat → Nat), Rd w A n (fun i => .slice (S i) (L i) (C i))
theorem ME.top {w : World} {A : Option Addr} {n : Nat} {L : Nat → Nat} {g : Nat → Nat → Nat} (h : ME w A n L g) : Top w A n L := by obtain ⟨S, C, h1, _⟩ := h; exact ⟨S, C, h1⟩
theorem MB.top {w : World} {A : Option Addr} {n : Nat} {L : Nat → Nat} {g : Nat → Nat → Nat} (h : MB w A n L g) : Top w A n L := by obtain ⟨S, C, h1, _⟩ := h; exact ⟨S, C, h1⟩
theorem MF.top {w : World} {A : Option Addr} {n : Nat} {L : Nat → Nat} {g : Nat → Nat → Nat} (h : MF w A n L g) : Top w A n L := by obtain ⟨S, C, h1, _⟩ := h; exact ⟨S, C, h1⟩
theorem MI.top {w : World} {A : Option Addr} {n : Nat} {L : Nat → Nat} {g : Nat → Nat → Nat} (h : MI w A n L g) : Top w A n L := by obtain ⟨S, C, h1, _⟩ := h; exact ⟨S, C, h1⟩

/-- A matrix's fault. -/
def faultE (n : Nat) (L : Nat → Nat) : Int := if 255 < n then 3 else if (List.range n).all (fun i => L i ≤ 255) then (if (List.range n).all (fun i => L i == L 0) then 0 else 30) else 3
theorem fault_big {n : Nat} {L : Nat → Nat} (h : 255 < n) : faultE n L = 3 := by unfold faultE; rw [if_pos h]
theorem fault_long {n : Nat} {L : Nat → Nat} (j : Nat) (hj : j < n) (hl : 255 < L j) : faultE n L = 3 := by
  unfold faultE
  by_cases h : 255 < n
  · rw [if_pos h]
  · rw [if_neg h, if_neg]
    intro ha
    have := List.all_eq_true.1 ha j (List.mem_range.2 hj)
    simp at this; omega
theorem fault_ragged {n : Nat} {L : Nat → Nat} (hn : n ≤ 255) (hl : ∀ i, i < n → L i ≤ 255) (j : Nat) (hj : j < n) (hne : L j ≠ L 0) : faultE n L = 30 := by
  unfold faultE
  rw [if_neg (by omega), if_pos (List.all_eq_true.2 fun i hi => by simpa using hl i (List.mem_range.1 hi)), if_neg]
  intro ha
  have := List.all_eq_true.1 ha j (List.mem_range.2 hj)
  simp at this; exact hne this
theorem fault_none {n : Nat} {L : Nat → Nat} (hn : n ≤ 255) (hl : ∀ i, i < n → L i ≤ 255) (he : ∀ i, i < n → L i = L 0) : faultE n L = 0 := by
  unfold faultE
  rw [if_neg (by omega), if_pos (List.all_eq_true.2 fun i hi => by simpa using hl i (List.mem_range.1 hi)), if_pos (List.all_eq_true.2 fun i hi => by simpa using he i (List.mem_range.1 hi))]
theorem fault_cases (n : Nat) (L : Nat → Nat) : (255 < n) ∨ (n ≤ 255 ∧ ∃ j, j < n ∧ 255 < L j ∧ ∀ i, i < j → L i ≤ 255) ∨ (n ≤ 255 ∧ (∀ i, i < n → L i ≤ 255) ∧ ∃ j, j < n ∧ L j ≠ L 0 ∧ ∀ i, i < j → L i = L 0) ∨ (n ≤ 255 ∧ (∀ i, i < n → L i ≤ 255) ∧ ∀ i, i < n → L i = L 0) := by
  have first : ∀ (p : Nat → Prop) (m : Nat), (∀ i, i < m → p i) ∨ ∃ j, j < m ∧ ¬ p j ∧ ∀ i, i < j → p i := by
    intro p m
    induction m with
    | zero => left; intro i hi; omega
    | succ m ih =>
      rcases ih with h | ⟨j, hj, h1, h2⟩
      · by_cases hp : p m
        · left; intro i hi
          rcases Nat.lt_or_ge i m with h' | h'
          · exact h i h'
          · have : i = m := by omega
            subst this; exact hp
        · right; exact ⟨m, by omega, hp, h⟩
      · right; exact ⟨j, by omega, h1, h2⟩
  rcases Nat.lt_or_ge 255 n with h | h
  · exact .inl h
  · rcases first (fun i => L i ≤ 255) n with h1 | ⟨j, hj, h2, h3⟩
    · rcases first (fun i => L i = L 0) n with h4 | ⟨j, hj, h5, h6⟩
      · exact .inr (.inr (.inr ⟨h, h1, h4⟩))
      · exact .inr (.inr (.inl ⟨h, h1, j, hj, h5, h6⟩))
    · exact .inr (.inl ⟨h, j, hj, by omega, h3⟩)
theorem faultE_ok {n : Nat} {L : Nat → Nat} (h : faultE n L = 0) : n ≤ 255 ∧ (∀ i, i < n → L i ≤ 255) ∧ ∀ i, i < n → L i = L 0 := by
  rcases fault_cases n L with h1 | ⟨h1, j, hj, h2, _⟩ | ⟨h1, h2, j, hj, h3, _⟩ | h1
  · rw [fault_big h1] at h; omega
  · rw [fault_long j hj h2] at h; omega
  · rw [fault_ragged h1 h2 j hj h3] at h; omega
  · exact h1

set_option maxHeartbeats 400000 in
theorem elems_any (A : Option Addr) (n c : Nat) (g : Nat → Nat) (w : World) (hn : n * 8 ≤ 140737488351232) (hg : ∀ i, i < n → g i < 256) (hA : Rd w A n fun i => .int .i64 (g i)) :
    Calls Try.prog 38 #[.slice A n c] w fun e w' => ∃ v, e = .returned v ∧ Own w' w.heap.size 34 1 v n (fun i => [.int .u8 (g i)]) ∧ Below w.heap.size w w' := by
  go_enter Try.func38, Try.ntmps38
  go_wp2
  go_loopg [3, 4] n (fun gk v i wr => ∃ k : Nat, k ≤ n ∧ gk = n - k ∧ i = .int .i64 k ∧ Own wr w.heap.size 34 1 v k (fun i => [.int .u8 (g i)]) ∧ Below w.heap.size w wr)
  case atStart => exact ⟨0, Nat.zero_le _, rfl, rfl, Own.nil _ _ _ _ _, Below.refl _ _⟩
  case round =>
    obtain ⟨k, hk, rfl, rfl, hown, hbel⟩ := hrel
    have hsz := hbel.size
    by_cases hlt : k < n
    · obtain ⟨b, o, rfl, hb, hc⟩ := hA k hlt
      have hgk := hg k hlt
      have hc' : wr.cell? ⟨b, o + k, none⟩ = some (.int .i64 (g k)) := (hbel.cell hb).trans hc
      go_wp2_with (first
        | (go_at_call 19; (with_reducible refine (elem_any _ _ hgk).mono ?_); rintro e w1 ⟨rfl, rfl⟩)
        | (at_builtin; refine wpList_push _ rfl (.tmp 11) (.tmp 17) 62 rfl w.heap.size 34 1 1 (.int .u8 0) #[.int .u8 (g k)] Try.underlying62 elemInfo rfl (by decide) _ k _ rfl hown hsz _ rfl rfl rfl rfl rfl (by omega) (by omega) ?_))
      · intro v' w1 hown' hbel' _ _
        have hbel2 : Below w.heap.size w w1 := hbel.trans hbel'
        clear hown hbel hc hc' hbel'
        go_wp2
        go_roundg (n - (k + 1))
        case measure => omega
        case rel => exact ⟨k + 1, by omega, rfl, by go_num, hown', hbel2⟩
    · have : k = n := by omega
      subst this
      go_wp2
      go_ret
      exact ⟨_, rfl, hown, hbel⟩

set_option maxHeartbeats 800000 in
theorem elemss_any (A : Option Addr) (n c : Nat) (L : Nat → Nat) (g : Nat → Nat → Nat) (w : World) (hn : n * 24 ≤ 140737488351232) (hL : ∀ i, i < n → L i * 8 ≤ 140737488351232) (hg : ∀ i, i < n → ∀ j, j < L i → g i j < 256) (hA : MI w A n L g) :
    Calls Try.prog 30 #[.slice A n c] w fun e w' => ∃ v S C, e = .returned v ∧ OwnQ w' w.heap.size 62 34 1 v n S C L (fun i j => [.int .u8 (g i j)]) ∧ Below w.heap.size w w' := by
  obtain ⟨SA, CA, hA1, hA2⟩ := hA
  go_enter Try.func30, Try.ntmps30
  go_wp2
  go_loopg [3, 4] n (fun gk v i wr => ∃ (k : Nat) (S : Nat → Option Addr) (C : Nat → Nat), k ≤ n ∧ gk = n - k ∧ i = .int .i64 k ∧ OwnQ wr w.heap.size 62 34 1 v k S C L (fun i j => [.int .u8 (g i j)]) ∧ Below w.heap.size w wr)
  case atStart => exact ⟨0, fun _ => none, fun _ => 0, Nat.zero_le _, rfl, rfl, OwnQ.nil _ _ _ _ _ _ _ _ _, Below.refl _ _⟩
  case round =>
    obtain ⟨k, S, C, hk, rfl, rfl, hown, hbel⟩ := hrel
    have hsz := hbel.size
    by_cases hlt : k < n
    · obtain ⟨b, o, rfl, hb, hc⟩ := hA1 k hlt
      have hc' : wr.cell? ⟨b, o + k, none⟩ = some (.slice (SA k) (L k) (CA k)) := (hbel.cell hb).trans hc
      have hrow : Rd wr (SA k) (L k) (fun j => .int .i64 (g k j)) := (hA2 k hlt).below hbel
      have hLk := hL k hlt
      have hgk := hg k hlt
      clear hL hc
      go_wp2_with fail
      refine (elems_any _ _ _ _ _ hLk hgk hrow).mono ?_
      rintro e w1 ⟨v1, rfl, hown1, hbel1⟩
      obtain ⟨A1, c1, rfl, _, _, _, _⟩ := hown1.rd
      have hownB := (hown.kept hbel1).next A1 c1
      have hown1' : Own w1 w.heap.size 34 1 (.slice (upd S k A1 k) (L k) (upd C k c1 k)) (L k) (fun j => [.int .u8 (g k j)]) := by
        rw [upd_at, upd_at]; exact hown1.mono hsz
      have hu : Hid ((#[Value.slice A1 (L k) c1] : Array Value).toList = [.slice (upd S k A1 k) (L k) (upd C k c1 k)]) := by rw [upd_at, upd_at]; rfl
      have hbel1' := hbel.trans (hbel1.mono hsz)
      have hsz1 := hbel1'.size
      clear hown hown1 hbel1 hbel hc' hrow
      go_wp2_with (at_builtin; refine wpList_push _ rfl (.tmp 11) (.tmp 17) 31 rfl w.heap.size 62 1 24 (.slice none 0 0) #[.slice A1 (L k) c1] Try.underlying31 elemsInfo rfl (by decide) _ k _ rfl hownB.1 hsz1 _ rfl rfl hu.out rfl rfl (by omega) (by omega) ?_)
      · intro v' w2 hown2 hbel2 hg2 _
        have hO := hownB.push (by decide) hown1' hown2 hg2
        have hbelF := hbel1'.trans hbel2
        clear hownB hown1' hown2 hg2 hbel2 hbel1'
        go_wp2
        go_roundg (n - (k + 1))
        case measure => omega
        case rel => exact ⟨k + 1, _, _, by omega, rfl, by go_num, hO, hbelF⟩
    · have : k = n := by omega
      subst this
      go_wp2
      go_ret
      exact ⟨_, _, _, rfl, hown, hbel⟩

set_option maxHeartbeats 400000 in
theorem bits_any (A : Option Addr) (n c : Nat) (g : Nat → Nat) (w : World) (hn : n * 8 ≤ 140737488351232) (hA : Rd w A n fun i => .int .i64 (g i)) :
    Calls Try.prog 40 #[.slice A n c] w fun e w' => ∃ v, e = .returned v ∧ Own w' w.heap.size 40 1 v n (fun i => [.bool (bB (g i))]) ∧ Below w.heap.size w w' := by
  go_enter Try.func40, Try.ntmps40
  go_wp2
  go_loopg [3, 4] n (fun gk v i wr => ∃ k : Nat, k ≤ n ∧ gk = n - k ∧ i = .int .i64 k ∧ Own wr w.heap.size 40 1 v k (fun i => [.bool (bB (g i))]) ∧ Below w.heap.size w wr)
  case atStart => exact ⟨0, Nat.zero_le _, rfl, rfl, Own.nil _ _ _ _ _, Below.refl _ _⟩
  case round =>
    obtain ⟨k, hk, rfl, rfl, hown, hbel⟩ := hrel
    have hsz := hbel.size
    by_cases hlt : k < n
    · obtain ⟨b, o, rfl, hb, hc⟩ := hA k hlt
      have hc' : wr.cell? ⟨b, o + k, none⟩ = some (.int .i64 (g k)) := (hbel.cell hb).trans hc
      go_wp2_with (first
        | (go_at_call 22; (with_reducible refine (bit_any _ _).mono ?_); rintro e w1 ⟨rfl, rfl⟩)
        | (at_builtin; refine wpList_push _ rfl (.tmp 11) (.tmp 17) 65 rfl w.heap.size 40 1 1 (.bool false) #[.bool (bB (g k))] Try.underlying65 bitInfo rfl (by decide) _ k _ rfl hown hsz _ rfl rfl rfl rfl rfl (by omega) (by omega) ?_))
      · intro v' w1 hown' hbel' _ _
        have hbel2 : Below w.heap.size w w1 := hbel.trans hbel'
        clear hown hbel hc hc' hbel'
        go_wp2
        go_roundg (n - (k + 1))
        case measure => omega
        case rel => exact ⟨k + 1, by omega, rfl, by go_num, hown', hbel2⟩
    · have : k = n := by omega
      subst this
      go_wp2
      go_ret
      exact ⟨_, rfl, hown, hbel⟩

set_option maxHeartbeats 800000 in
theorem bitss_any (A : Option Addr) (n c : Nat) (L : Nat → Nat) (g : Nat → Nat → Nat) (w : World) (hn : n * 24 ≤ 140737488351232) (hL : ∀ i, i < n → L i * 8 ≤ 140737488351232) (hA : MI w A n L g) :
    Calls Try.prog 32 #[.slice A n c] w fun e w' => ∃ v S C, e = .returned v ∧ OwnQ w' w.heap.size 65 40 1 v n S C L (fun i j => [.bool (bB (g i j))]) ∧ Below w.heap.size w w' := by
  obtain ⟨SA, CA, hA1, hA2⟩ := hA
  go_enter Try.func32, Try.ntmps32
  go_wp2
  go_loopg [3, 4] n (fun gk v i wr => ∃ (k : Nat) (S : Nat → Option Addr) (C : Nat → Nat), k ≤ n ∧ gk = n - k ∧ i = .int .i64 k ∧ OwnQ wr w.heap.size 65 40 1 v k S C L (fun i j => [.bool (bB (g i j))]) ∧ Below w.heap.size w wr)
  case atStart => exact ⟨0, fun _ => none, fun _ => 0, Nat.zero_le _, rfl, rfl, OwnQ.nil _ _ _ _ _ _ _ _ _, Below.refl _ _⟩
  case round =>
    obtain ⟨k, S, C, hk, rfl, rfl, hown, hbel⟩ := hrel
    have hsz := hbel.size
    by_cases hlt : k < n
    · obtain ⟨b, o, rfl, hb, hc⟩ := hA1 k hlt
      have hc' : wr.cell? ⟨b, o + k, none⟩ = some (.slice (SA k) (L k) (CA k)) := (hbel.cell hb).trans hc
      have hrow : Rd wr (SA k) (L k) (fun j => .int .i64 (g k j)) := (hA2 k hlt).below hbel
      have hLk := hL k hlt
      clear hL hc
      go_wp2_with fail
      refine (bits_any _ _ _ _ _ hLk hrow).mono ?_
      rintro e w1 ⟨v1, rfl, hown1, hbel1⟩
      obtain ⟨A1, c1, rfl, _, _, _, _⟩ := hown1.rd
      have hownB := (hown.kept hbel1).next A1 c1
      have hown1' : Own w1 w.heap.size 40 1 (.slice (upd S k A1 k) (L k) (upd C k c1 k)) (L k) (fun j => [.bool (bB (g k j))]) := by
        rw [upd_at, upd_at]; exact hown1.mono hsz
      have hu : Hid ((#[Value.slice A1 (L k) c1] : Array Value).toList = [.slice (upd S k A1 k) (L k) (upd C k c1 k)]) := by rw [upd_at, upd_at]; rfl
      have hbel1' := hbel.trans (hbel1.mono hsz)
      have hsz1 := hbel1'.size
      clear hown hown1 hbel1 hbel hc' hrow
      go_wp2_with (at_builtin; refine wpList_push _ rfl (.tmp 11) (.tmp 17) 37 rfl w.heap.size 65 1 24 (.slice none 0 0) #[.slice A1 (L k) c1] Try.underlying37 bitsInfo rfl (by decide) _ k _ rfl hownB.1 hsz1 _ rfl rfl hu.out rfl rfl (by omega) (by omega) ?_)
      · intro v' w2 hown2 hbel2 hg2 _
        have hO := hownB.push (by decide) hown1' hown2 hg2
        have hbelF := hbel1'.trans hbel2
        clear hownB hown1' hown2 hg2 hbel2 hbel1'
        go_wp2
        go_roundg (n - (k + 1))
        case measure => omega
        case rel => exact ⟨k + 1, _, _, by omega, rfl, by go_num, hO, hbelF⟩
    · have : k = n := by omega
      subst this
      go_wp2
      go_ret
      exact ⟨_, _, _, rfl, hown, hbel⟩

set_option maxHeartbeats 400000 in
theorem fours_any (A : Option Addr) (n c : Nat) (g : Nat → Nat) (w : World) (hn : n * 8 ≤ 140737488351232) (hA : Rd w A n fun i => .int .i64 (g i)) :
    Calls Try.prog 42 #[.slice A n c] w fun e w' => ∃ v, e = .returned v ∧ Own w' w.heap.size 47 2 v n (fun i => [.bool (f0 (g i)), .bool (f1 (g i))]) ∧ Below w.heap.size w w' := by
  go_enter Try.func42, Try.ntmps42
  go_wp2
  go_loopg [3, 4] n (fun gk v i wr => ∃ k : Nat, k ≤ n ∧ gk = n - k ∧ i = .int .i64 k ∧ Own wr w.heap.size 47 2 v k (fun i => [.bool (f0 (g i)), .bool (f1 (g i))]) ∧ Below w.heap.size w wr)
  case atStart => exact ⟨0, Nat.zero_le _, rfl, rfl, Own.nil _ _ _ _ _, Below.refl _ _⟩
  case round =>
    obtain ⟨k, hk, rfl, rfl, hown, hbel⟩ := hrel
    have hsz := hbel.size
    by_cases hlt : k < n
    · obtain ⟨b, o, rfl, hb, hc⟩ := hA k hlt
      have hc' : wr.cell? ⟨b, o + k, none⟩ = some (.int .i64 (g k)) := (hbel.cell hb).trans hc
      go_wp2_with fail
      refine (four_any _ _).mono ?_
      rintro e w1 ⟨rfl, hb1⟩
      have hownB := hown.kept hb1
      have hbel1 := hbel.trans (hb1.mono hsz)
      have hsz1 := hbel1.size
      clear hown hbel hb1 hc hc'
      go_wp2_with (at_builtin; refine wpList_push _ rfl (.tmp 11) (.tmp 17) 68 rfl w.heap.size 47 2 2 (.agg #[.bool false, .bool false]) #[.bool (f0 (g k)), .bool (f1 (g k))] Try.underlying68 fourInfo rfl (by decide) _ k _ rfl hownB hsz1 _ rfl rfl rfl rfl rfl (by omega) (by omega) ?_)
      · intro v' w2 hown' hbel' _ _
        have hbel2 : Below w.heap.size w w2 := hbel1.trans hbel'
        clear hownB hbel1 hbel'
        go_wp2
        go_roundg (n - (k + 1))
        case measure => omega
        case rel => exact ⟨k + 1, by omega, rfl, by go_num, hown', hbel2⟩
    · have : k = n := by omega
      subst this
      go_wp2
      go_ret
      exact ⟨_, rfl, hown, hbel⟩

set_option maxHeartbeats 800000 in
theorem fourss_any (A : Option Addr) (n c : Nat) (L : Nat → Nat) (g : Nat → Nat → Nat) (w : World) (hn : n * 24 ≤ 140737488351232) (hL : ∀ i, i < n → L i * 8 ≤ 140737488351232) (hA : MI w A n L g) :
    Calls Try.prog 34 #[.slice A n c] w fun e w' => ∃ v S C, e = .returned v ∧ OwnQ w' w.heap.size 68 47 2 v n S C L (fun i j => [.bool (f0 (g i j)), .bool (f1 (g i j))]) ∧ Below w.heap.size w w' := by
  obtain ⟨SA, CA, hA1, hA2⟩ := hA
  go_enter Try.func34, Try.ntmps34
  go_wp2
  go_loopg [3, 4] n (fun gk v i wr => ∃ (k : Nat) (S : Nat → Option Addr) (C : Nat → Nat), k ≤ n ∧ gk = n - k ∧ i = .int .i64 k ∧ OwnQ wr w.heap.size 68 47 2 v k S C L (fun i j => [.bool (f0 (g i j)), .bool (f1 (g i j))]) ∧ Below w.heap.size w wr)
  case atStart => exact ⟨0, fun _ => none, fun _ => 0, Nat.zero_le _, rfl, rfl, OwnQ.nil _ _ _ _ _ _ _ _ _, Below.refl _ _⟩
  case round =>
    obtain ⟨k, S, C, hk, rfl, rfl, hown, hbel⟩ := hrel
    have hsz := hbel.size
    by_cases hlt : k < n
    · obtain ⟨b, o, rfl, hb, hc⟩ := hA1 k hlt
      have hc' : wr.cell? ⟨b, o + k, none⟩ = some (.slice (SA k) (L k) (CA k)) := (hbel.cell hb).trans hc
      have hrow : Rd wr (SA k) (L k) (fun j => .int .i64 (g k j)) := (hA2 k hlt).below hbel
      have hLk := hL k hlt
      clear hL hc
      go_wp2_with fail
      refine (fours_any _ _ _ _ _ hLk hrow).mono ?_
      rintro e w1 ⟨v1, rfl, hown1, hbel1⟩
      obtain ⟨A1, c1, rfl, _, _, _⟩ := hown1.rd2
      have hownB := (hown.kept hbel1).next A1 c1
      have hown1' : Own w1 w.heap.size 47 2 (.slice (upd S k A1 k) (L k) (upd C k c1 k)) (L k) (fun j => [.bool (f0 (g k j)), .bool (f1 (g k j))]) := by
        rw [upd_at, upd_at]; exact hown1.mono hsz
      have hu : Hid ((#[Value.slice A1 (L k) c1] : Array Value).toList = [.slice (upd S k A1 k) (L k) (upd C k c1 k)]) := by rw [upd_at, upd_at]; rfl
      have hbel1' := hbel.trans (hbel1.mono hsz)
      have hsz1 := hbel1'.size
      clear hown hown1 hbel1 hbel hc' hrow
      go_wp2_with (at_builtin; refine wpList_push _ rfl (.tmp 11) (.tmp 17) 43 rfl w.heap.size 68 1 24 (.slice none 0 0) #[.slice A1 (L k) c1] Try.underlying43 foursInfo rfl (by decide) _ k _ rfl hownB.1 hsz1 _ rfl rfl hu.out rfl rfl (by omega) (by omega) ?_)
      · intro v' w2 hown2 hbel2 hg2 _
        have hO := hownB.push (by decide) hown1' hown2 hg2
        have hbelF := hbel1'.trans hbel2
        clear hownB hown1' hown2 hg2 hbel2 hbel1'
        go_wp2
        go_roundg (n - (k + 1))
        case measure => omega
        case rel => exact ⟨k + 1, _, _, by omega, rfl, by go_num, hO, hbelF⟩
    · have : k = n := by omega
      subst this
      go_wp2
      go_ret
      exact ⟨_, _, _, rfl, hown, hbel⟩

end Go.Proofs.Ytpocjpodeahanaa
