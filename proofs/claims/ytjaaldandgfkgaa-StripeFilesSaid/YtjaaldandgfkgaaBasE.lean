/- Matrices over the field of 256: zeros, Identity, faults, columns. Conditions: lengths that memory bears. -/
import Derived.Test.YtjaaldandgfkgaaElm
import Derived.Test.YtjaaldandgfkgaaMem2
namespace Go.Proofs.Ytjaaldandgfkgaa
open Go.RowKit

theorem elemInfo : (Try.prog.info? 127).map (fun i => (i.zero, i.size, i.bytes)) = some (some (.int .u8 0), 1, 1) := by kernel_rfl
theorem elemsInfo : (Try.prog.info? 128).map (fun i => (i.zero, i.size, i.bytes)) = some (some (.slice none 0 0), 1, 24) := by kernel_rfl
theorem ret_int {k : IntKind} {a b : Int} (h : a = b) : Ending.returned (.int k a) = .returned (.int k b) := by rw [h]
/-- 'make([]T, n)', n a variable, elements of whatever number of cells. -/
theorem run_make_rowM {P : Program} (t e : TypeId) (z : Value) (size bytes : Nat) (ht : P.underlying t = some (.slice e)) (hinfo : (P.info? e).map (fun i => (i.zero, i.size, i.bytes)) = some (some z, size, bytes))
    (kl kc : IntKind) (n : Nat) (hbytes : bytes * n ≤ 281474976710656) (h63 : n ≤ 9223372036854775807) (w : World) :
    (Instr.makeSlice t (.int kl (n : Int)) (.int kc (n : Int))).run P w = .ok (.slice (some ⟨w.heap.size, 0, none⟩) n n) (w.alloc (.cells (madeCells z.cells (n * size)) e)) := by
  obtain ⟨i, hi, hzz⟩ := Option.map_eq_some_iff.1 hinfo
  simp only [Prod.mk.injEq] at hzz
  obtain ⟨hz, hs, hb⟩ := hzz
  have hb' : (i.bytes : Int) * (n : Int) ≤ 281474976710656 := by
    have h : ((i.bytes * n : Nat) : Int) ≤ 281474976710656 := by rw [hb]; omega
    rwa [Int.natCast_mul] at h
  have hr := run_make (P := P) w t e i z ht hi hz kl kc n n (by omega) (Int.le_refl _) hb' (by omega)
  simp only [Int.toNat_natCast, hs] at hr
  exact hr
set_option maxHeartbeats 400000 in
theorem zerosE (r c : Nat) (w : World) (hr : r ≤ 100000) (hc : c ≤ 100000) :
    Calls Try.prog 103 #[.int .i64 r, .int .i64 c] w fun e w' => e = .returned (.slice (some ⟨w.heap.size, 0, none⟩) r r) ∧
      Mx w' w.heap.size w.heap.size 128 127 r (fun i => w.heap.size + 1 + i) c c (fun _ _ => .int .u8 0) ∧ Below w.heap.size w w' := by
  have hmk1 := run_make_row' (P := Try.prog) 124 128 (.slice none 0 0) 24 Try.underlying124 elemsInfo rfl .i64 .i64 r (by omega) (by omega)
  have hmk2 := run_make_row' (P := Try.prog) 128 127 (.int .u8 0) 1 Try.underlying128 elemInfo rfl .i64 .i64 c (by omega) (by omega)
  go_enter Try.func103, Try.ntmps103
  go_wp2
  go_loopg [11] r (fun g i wr => ∃ k : Nat, k ≤ r ∧ g = r - k ∧ i = .int .i64 k ∧ Zs w wr 128 127 r k c c (fun _ => .int .u8 0))
  case atStart => exact ⟨0, Nat.zero_le _, rfl, rfl, Zs.start _ _ _ _ _ _ _⟩
  case round =>
    obtain ⟨k, hk, rfl, rfl, hZ⟩ := hrel
    clear hmk1
    by_cases hlt : k < r
    · have hst1 : ∀ o, (wr.alloc o).cell? ⟨w.heap.size, k, none⟩ = some (.slice none 0 0) := fun o => by simpa using (hZ.top.alloc o).cell hlt
      have hst2 : ∀ o, (wr.alloc o).frozen? ⟨w.heap.size, k, none⟩ = false := fun o => (hZ.top.alloc o).frozen k
      go_wp2
      go_roundg (r - (k + 1))
      case measure => omega
      case rel => exact ⟨k + 1, by omega, rfl, by go_num, hZ.step (World.rowIs_made _ _ _ _)⟩
    · have : k = r := by omega
      subst this
      go_wp2
      go_ret
      exact ⟨rfl, hZ.done, hZ.below⟩
set_option maxHeartbeats 400000 in
theorem identE (n : Nat) (one : Int) (w : World) (hn : n ≤ 255) :
    Calls Try.prog 83 #[.int .i64 n, .int .u8 one] w fun e w' => ∃ b S, e = .returned (.tuple #[.slice (some ⟨b, 0, none⟩) n n, .int .i64 0]) ∧
      Mx w' w.heap.size b 128 127 n S n n (fun i j => if i = j then .int .u8 one else .int .u8 0) ∧ Below w.heap.size w w' := by
  go_enter Try.func83, Try.ntmps83
  go_wp2_with (go_at_call 103; (with_reducible refine (zerosE n n _ (by omega) (by omega)).mono ?_); rintro e w1 ⟨rfl, hM, hbel⟩)
  go_loopg [7, 17] n (fun g _ i wr => ∃ k : Nat, k ≤ n ∧ g = n - k ∧ i = .int .i64 k ∧ Below w.heap.size w wr ∧
    Mx wr w.heap.size w.heap.size 128 127 n (fun i => w.heap.size + 1 + i) n n (fun i j => if i < k ∧ i = j then .int .u8 one else .int .u8 0))
  case atStart => exact ⟨0, Nat.zero_le _, rfl, rfl, hbel, hM.congr (by intro i j _ _; simp)⟩
  case round =>
    clear hM hbel
    obtain ⟨k, hk, rfl, rfl, hbel, hM⟩ := hrel
    by_cases hlt : k < n
    · have h1 := hM.top.cell hlt
      have h2 := (hM.row k hlt).cell hlt
      have h3 := (hM.row k hlt).frozen k
      go_wp2
      go_roundg (n - (k + 1))
      case measure => omega
      case rel =>
        refine ⟨k + 1, by omega, rfl, by go_num, hbel.setCell (by simp; omega) _, (hM.set hlt k _).congr ?_⟩
        intro i j _ _
        by_cases e1 : i = k ∧ j = k
        · simp [e1.1, e1.2]
        · rw [if_neg e1]; by_cases e2 : i = j
          · subst e2; have : i ≠ k := fun h => e1 ⟨h, h⟩
            by_cases e3 : i < k
            · simp [e3, show i < k + 1 by omega]
            · simp [e3, show ¬ i < k + 1 by omega]
          · simp [e2]
    · have : k = n := by omega
      subst this
      go_wp2
      go_ret2
      exact ⟨_, _, rfl, hM.congr (by intro i j hi _; simp [hi]), hbel⟩
/-- Matrices of numbers in memory, by field. -/
def ME (w : World) (A : Option Addr) (n : Nat) (L : Nat → Nat) (g : Nat → Nat → Nat) : Prop := RdM w A n L fun i j => .int .u8 (g i j)
theorem ME.below {w w' : World} {A : Option Addr} {n : Nat} {L : Nat → Nat} {g : Nat → Nat → Nat} (h : ME w A n L g) (hb : Below w.heap.size w w') : ME w' A n L g := RdM.below h hb
/-- The rows' slices of a matrix, whatever its numbers. -/
def Top (w : World) (A : Option Addr) (n : Nat) (L : Nat → Nat) : Prop := ∃ (S : Nat → Option Addr) (C : Nat → Nat), Rd w A n (fun i => .slice (S i) (L i) (C i))
theorem ME.top {w : World} {A : Option Addr} {n : Nat} {L : Nat → Nat} {g : Nat → Nat → Nat} (h : ME w A n L g) : Top w A n L := by obtain ⟨S, C, h1, _⟩ := h; exact ⟨S, C, h1⟩
/-- A matrix's fault. -/
def faultE (n : Nat) (L : Nat → Nat) : Int := if 255 < n then 3 else if (List.range n).all (fun i => L i ≤ 255) then (if (List.range n).all (fun i => L i == L 0) then 0 else 30) else 3
theorem fault_big {n : Nat} {L : Nat → Nat} (h : 255 < n) : faultE n L = 3 := by unfold faultE; rw [if_pos h]
theorem fault_long {n : Nat} {L : Nat → Nat} (j : Nat) (hj : j < n) (hl : 255 < L j) : faultE n L = 3 := by
  unfold faultE
  by_cases h : 255 < n
  · rw [if_pos h]
  · rw [if_neg h, if_neg]
    intro ha
    have := List.all_eq_true.1 ha j (List.mem_range.2 hj)
    simp at this; omega
theorem fault_ragged {n : Nat} {L : Nat → Nat} (hn : n ≤ 255) (hl : ∀ i, i < n → L i ≤ 255) (j : Nat) (hj : j < n) (hne : L j ≠ L 0) : faultE n L = 30 := by
  unfold faultE
  rw [if_neg (by omega), if_pos (List.all_eq_true.2 fun i hi => by simpa using hl i (List.mem_range.1 hi)), if_neg]
  intro ha
  have := List.all_eq_true.1 ha j (List.mem_range.2 hj)
  simp at this; exact hne this
theorem fault_none {n : Nat} {L : Nat → Nat} (hn : n ≤ 255) (hl : ∀ i, i < n → L i ≤ 255) (he : ∀ i, i < n → L i = L 0) : faultE n L = 0 := by
  unfold faultE
  rw [if_neg (by omega), if_pos (List.all_eq_true.2 fun i hi => by simpa using hl i (List.mem_range.1 hi)), if_pos (List.all_eq_true.2 fun i hi => by simpa using he i (List.mem_range.1 hi))]
theorem fault_cases (n : Nat) (L : Nat → Nat) : (255 < n) ∨ (n ≤ 255 ∧ ∃ j, j < n ∧ 255 < L j ∧ ∀ i, i < j → L i ≤ 255) ∨ (n ≤ 255 ∧ (∀ i, i < n → L i ≤ 255) ∧ ∃ j, j < n ∧ L j ≠ L 0 ∧ ∀ i, i < j → L i = L 0) ∨ (n ≤ 255 ∧ (∀ i, i < n → L i ≤ 255) ∧ ∀ i, i < n → L i = L 0) := by
  have first : ∀ (p : Nat → Prop) (m : Nat), (∀ i, i < m → p i) ∨ ∃ j, j < m ∧ ¬ p j ∧ ∀ i, i < j → p i := by
    intro p m
    induction m with
    | zero => left; intro i hi; omega
    | succ m ih =>
      rcases ih with h | ⟨j, hj, h1, h2⟩
      · by_cases hp : p m
        · left; intro i hi
          rcases Nat.lt_or_ge i m with h' | h'
          · exact h i h'
          · have : i = m := by omega
            subst this; exact hp
        · right; exact ⟨m, by omega, hp, h⟩
      · right; exact ⟨j, by omega, h1, h2⟩
  rcases Nat.lt_or_ge 255 n with h | h
  · exact .inl h
  · rcases first (fun i => L i ≤ 255) n with h1 | ⟨j, hj, h2, h3⟩
    · rcases first (fun i => L i = L 0) n with h4 | ⟨j, hj, h5, h6⟩
      · exact .inr (.inr (.inr ⟨h, h1, h4⟩))
      · exact .inr (.inr (.inl ⟨h, h1, j, hj, h5, h6⟩))
    · exact .inr (.inl ⟨h, j, hj, by omega, h3⟩)
theorem faultE_ok {n : Nat} {L : Nat → Nat} (h : faultE n L = 0) : n ≤ 255 ∧ (∀ i, i < n → L i ≤ 255) ∧ ∀ i, i < n → L i = L 0 := by
  rcases fault_cases n L with h1 | ⟨h1, j, hj, h2, _⟩ | ⟨h1, h2, j, hj, h3, _⟩ | h1
  · rw [fault_big h1] at h; omega
  · rw [fault_long j hj h2] at h; omega
  · rw [fault_ragged h1 h2 j hj h3] at h; omega
  · exact h1
/-- Is one of the first k lengths another than the first? -/
def ragB (L : Nat → Nat) (k : Nat) : Bool := (List.range k).any fun i => L i != L 0
theorem ragB_succ (L : Nat → Nat) (k : Nat) : ragB L (k + 1) = (ragB L k || (L k != L 0)) := by unfold ragB; rw [List.range_succ, List.any_append]; simp
theorem faultE_end {n : Nat} {L : Nat → Nat} (hn : n ≤ 255) (hl : ∀ i, i < n → L i ≤ 255) : faultE n L = if ragB L n then 30 else 0 := by
  unfold faultE
  rw [if_neg (by omega), if_pos (List.all_eq_true.2 fun i hi => by simpa using hl i (List.mem_range.1 hi))]
  have : (List.range n).all (fun i => L i == L 0) = !ragB L n := by unfold ragB; rw [List.not_any_eq_all_not]; congr 1; funext i; simp [bne]
  rw [this]; cases ragB L n <;> rfl
theorem le_next {L : Nat → Nat} {k b : Nat} (h : ∀ j, j < k → L j ≤ b) (hk : L k ≤ b) : ∀ j, j < k + 1 → L j ≤ b := fun j hj => by
  rcases Nat.lt_or_ge j k with h' | h'
  · exact h j h'
  · have : j = k := by omega
    subst this; exact hk
def colsN (n : Nat) (L : Nat → Nat) : Nat := if n = 0 then 0 else L 0
set_option maxHeartbeats 800000 in
theorem faultE_any (A : Option Addr) (n c : Nat) (L : Nat → Nat) (w : World) (hn : n ≤ 9223372036854775807) (hL : ∀ i, i < n → L i ≤ 9223372036854775807) (hT : Top w A n L) :
    Calls Try.prog 107 #[.slice A n c] w fun e w' => e = .returned (.int .i64 (faultE n L)) ∧ w = w' := by
  obtain ⟨S, C, hA⟩ := hT
  by_cases hbig : 255 < n
  · rw [fault_big hbig]
    go_enter Try.func107, Try.ntmps107
    go_wp2
    go_ret
    exact ⟨rfl, rfl⟩
  · go_enter Try.func107, Try.ntmps107
    go_wp2
    go_loopg [3, 5, 11] n (fun g r _ i wr => wr = w ∧ ∃ k : Nat, k ≤ n ∧ g = n - k ∧ i = .int .i64 k ∧ r = .bool (ragB L k) ∧ ∀ j, j < k → L j ≤ 255)
    case atStart => exact ⟨rfl, 0, Nat.zero_le _, rfl, rfl, rfl, fun j hj => absurd hj (by omega)⟩
    case round =>
      obtain ⟨rfl, k, hk, rfl, rfl, rfl, hl⟩ := hrel
      have HL := Lib.hid hl; clear hl
      by_cases hlt : k < n
      · have h0 := hA 0 (by omega)
        obtain ⟨b, o, rfl, _, hc⟩ := hA k hlt
        obtain ⟨b', o', e1, _, hc0⟩ := h0
        injection e1 with e1; injection e1 with e1 e2; subst e1 e2
        have hc0' : wr.cell? ⟨b, o, none⟩ = some (.slice (S 0) (L 0) (C 0)) := by simpa using hc0
        have hLk := hL k hlt
        have hL0 := hL 0 (by omega)
        clear hc0 hL
        by_cases hlong : 255 < L k
        · go_wp2
          go_ret
          exact ⟨ret_int (fault_long k hlt hlong).symm, rfl⟩
        · by_cases hr : ragB L k = true
          · go_wp2
            go_roundg (n - (k + 1))
            case measure => omega
            case rel => exact ⟨rfl, k + 1, by omega, rfl, by go_num, by rw [ragB_succ, hr]; rfl, le_next HL.out (by omega)⟩
          · have hr' : ragB L k = false := by simpa using hr
            clear hr
            by_cases hne : L k = L 0
            · have t1 : ((L k : Int) != (L 0 : Int)) = false := by simp [hne]
              have HN := Lib.hid hne; clear hne
              go_wp2
              go_roundg (n - (k + 1))
              case measure => omega
              case rel => exact ⟨rfl, k + 1, by omega, rfl, by go_num, by rw [ragB_succ, hr', HN.out]; simp, le_next HL.out (by omega)⟩
            · have t1 : ((L k : Int) != (L 0 : Int)) = true := by rw [bne_iff_ne]; omega
              have HN := Lib.hid hne; clear hne
              go_wp2
              go_roundg (n - (k + 1))
              case measure => omega
              case rel => exact ⟨rfl, k + 1, by omega, rfl, by go_num, by rw [ragB_succ, hr']; simp [HN.out], le_next HL.out (by omega)⟩
      · have : k = n := by omega
        subst this
        go_wp2
        all_goals go_ret
        all_goals refine ⟨ret_int ?_, rfl⟩
        all_goals rw [faultE_end (by omega) HL.out]
        · rw [if_pos (by assumption)]
        · rw [if_neg (by simp_all)]
theorem columnsE_any (A : Option Addr) (n c : Nat) (L : Nat → Nat) (w : World) (hT : Top w A n L) :
    Calls Try.prog 108 #[.slice A n c] w fun e w' => e = .returned (.int .i64 (colsN n L)) ∧ w = w' := by
  obtain ⟨S, C, hA⟩ := hT
  by_cases h : n = 0
  · subst h
    go_enter Try.func108, Try.ntmps108
    go_wp2
    go_ret
    exact ⟨rfl, rfl⟩
  · obtain ⟨b, o, rfl, _, hc⟩ := hA 0 (by omega)
    have hc0 : w.cell? ⟨b, o, none⟩ = some (.slice (S 0) (L 0) (C 0)) := by simpa using hc
    have h0 : ((n : Int) == 0) = false := by rw [beq_eq_false_iff_ne]; omega
    have hp : 0 < n := by omega
    clear hc
    go_enter Try.func108, Try.ntmps108
    go_wp2
    go_ret
    exact ⟨ret_int (by unfold colsN; rw [if_neg h]), rfl⟩
theorem RdM.len {w : World} {A : Option Addr} {n m : Nat} {L : Nat → Nat} {f : Nat → Nat → Value} (h : RdM w A n L f) (hl : ∀ i, i < n → L i = m) : RdM w A n (fun _ => m) f := by
  obtain ⟨S, C, h1, h2⟩ := h
  exact ⟨S, C, h1.congr fun i hi => by rw [hl i hi], fun i hi => by have := h2 i hi; rw [hl i hi] at this; exact this⟩
theorem colsN_len {n : Nat} {L : Nat → Nat} (hf : faultE n L = 0) : ∀ i, i < n → L i = colsN n L := fun i hi => by
  obtain ⟨_, _, h⟩ := faultE_ok hf
  unfold colsN
  rw [if_neg (by omega), h i hi]
theorem colsN_le {n : Nat} {L : Nat → Nat} (hf : faultE n L = 0) : colsN n L ≤ 255 := by
  obtain ⟨_, h, _⟩ := faultE_ok hf
  unfold colsN
  split
  · omega
  · exact h 0 (by omega)
end Go.Proofs.Ytjaaldandgfkgaa
