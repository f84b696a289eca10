/- Walks of zeros and Identity, the program's over three fields and the document's. Conditions: sizes that may be. -/
import Derived.Test.YtpocjpodeahanaaLikeF
namespace Go.Proofs.Ytpocjpodeahanaa
open Go.RowKit

/-- 'make([]T, n)', n a variable, elements of whatever number of cells. -/
theorem run_make_rowM {P : Program} (t e : TypeId) (z : Value) (size bytes : Nat) (ht : P.underlying t = some (.slice e)) (hinfo : (P.info? e).map (fun i => (i.zero, i.size, i.bytes)) = some (some z, size, bytes))
    (kl kc : IntKind) (n : Nat) (hbytes : bytes * n ≤ 281474976710656) (h63 : n ≤ 9223372036854775807) (w : World) :
    (Instr.makeSlice t (.int kl (n : Int)) (.int kc (n : Int))).run P w = .ok (.slice (some ⟨w.heap.size, 0, none⟩) n n) (w.alloc (.cells (madeCells z.cells (n * size)) e)) := by
  obtain ⟨i, hi, hzz⟩ := Option.map_eq_some_iff.1 hinfo
  simp only [Prod.mk.injEq] at hzz
  obtain ⟨hz, hs, hb⟩ := hzz
  have hb' : (i.bytes : Int) * (n : Int) ≤ 281474976710656 := by
    have h : ((i.bytes * n : Nat) : Int) ≤ 281474976710656 := by rw [hb]; omega
    rwa [Int.natCast_mul] at h
  have hr := run_make (P := P) w t e i z ht hi hz kl kc n n (by omega) (Int.le_refl _) hb' (by omega)
  simp only [Int.toNat_natCast, hs] at hr
  exact hr
theorem rowIs_made2 (w : World) (n t : Nat) : (w.alloc (.cells (madeCells #[.bool false, .bool false] (n * 2)) t)).rowIs w.heap.size t (n * 2) (fun _ => .bool false) := by
  have h := World.rowIs_alloc w (madeCells #[.bool false, .bool false] (n * 2)) t (fun _ => .bool false) (by
    intro i hi
    rw [size_madeCells] at hi
    simp [madeCells, hi]
    have : i % 2 = 0 ∨ i % 2 = 1 := by omega
    rcases this with h | h <;> simp [h])
  rwa [size_madeCells] at h

set_option maxHeartbeats 400000 in
theorem zerosE (r c : Nat) (w : World) (hr : r ≤ 100000) (hc : c ≤ 100000) :
    Calls Try.prog 79 #[.int .i64 r, .int .i64 c] w fun e w' => e = .returned (.slice (some ⟨w.heap.size, 0, none⟩) r r) ∧
      Mx w' w.heap.size w.heap.size 62 34 r (fun i => w.heap.size + 1 + i) c c (fun _ _ => .int .u8 0) ∧ Below w.heap.size w w' := by
  have hmk1 := run_make_row' (P := Try.prog) 31 62 (.slice none 0 0) 24 Try.underlying31 elemsInfo rfl .i64 .i64 r (by omega) (by omega)
  have hmk2 := run_make_row' (P := Try.prog) 62 34 (.int .u8 0) 1 Try.underlying62 elemInfo rfl .i64 .i64 c (by omega) (by omega)
  go_enter Try.func79, Try.ntmps79
  go_wp2
  go_loopg [11] r (fun g i wr => ∃ k : Nat, k ≤ r ∧ g = r - k ∧ i = .int .i64 k ∧ Zs w wr 62 34 r k c c (fun _ => .int .u8 0))
  case atStart => exact ⟨0, Nat.zero_le _, rfl, rfl, Zs.start _ _ _ _ _ _ _⟩
  case round =>
    obtain ⟨k, hk, rfl, rfl, hZ⟩ := hrel
    clear hmk1
    by_cases hlt : k < r
    · have hst1 : ∀ o, (wr.alloc o).cell? ⟨w.heap.size, k, none⟩ = some (.slice none 0 0) := fun o => by simpa using (hZ.top.alloc o).cell hlt
      have hst2 : ∀ o, (wr.alloc o).frozen? ⟨w.heap.size, k, none⟩ = false := fun o => (hZ.top.alloc o).frozen k
      go_wp2
      go_roundg (r - (k + 1))
      case measure => omega
      case rel => exact ⟨k + 1, by omega, rfl, by go_num, hZ.step (World.rowIs_made _ _ _ _)⟩
    · have : k = r := by omega
      subst this
      go_wp2
      go_ret
      exact ⟨rfl, hZ.done, hZ.below⟩

set_option maxHeartbeats 400000 in
theorem zerosB (r c : Nat) (w : World) (hr : r ≤ 100000) (hc : c ≤ 100000) :
    Calls Try.prog 80 #[.int .i64 r, .int .i64 c] w fun e w' => e = .returned (.slice (some ⟨w.heap.size, 0, none⟩) r r) ∧
      Mx w' w.heap.size w.heap.size 65 40 r (fun i => w.heap.size + 1 + i) c c (fun _ _ => .bool false) ∧ Below w.heap.size w w' := by
  have hmk1 := run_make_row' (P := Try.prog) 37 65 (.slice none 0 0) 24 Try.underlying37 bitsInfo rfl .i64 .i64 r (by omega) (by omega)
  have hmk2 := run_make_row' (P := Try.prog) 65 40 (.bool false) 1 Try.underlying65 bitInfo rfl .i64 .i64 c (by omega) (by omega)
  go_enter Try.func80, Try.ntmps80
  go_wp2
  go_loopg [11] r (fun g i wr => ∃ k : Nat, k ≤ r ∧ g = r - k ∧ i = .int .i64 k ∧ Zs w wr 65 40 r k c c (fun _ => .bool false))
  case atStart => exact ⟨0, Nat.zero_le _, rfl, rfl, Zs.start _ _ _ _ _ _ _⟩
  case round =>
    obtain ⟨k, hk, rfl, rfl, hZ⟩ := hrel
    clear hmk1
    by_cases hlt : k < r
    · have hst1 : ∀ o, (wr.alloc o).cell? ⟨w.heap.size, k, none⟩ = some (.slice none 0 0) := fun o => by simpa using (hZ.top.alloc o).cell hlt
      have hst2 : ∀ o, (wr.alloc o).frozen? ⟨w.heap.size, k, none⟩ = false := fun o => (hZ.top.alloc o).frozen k
      go_wp2
      go_roundg (r - (k + 1))
      case measure => omega
      case rel => exact ⟨k + 1, by omega, rfl, by go_num, hZ.step (World.rowIs_made _ _ _ _)⟩
    · have : k = r := by omega
      subst this
      go_wp2
      go_ret
      exact ⟨rfl, hZ.done, hZ.below⟩

set_option maxHeartbeats 400000 in
theorem zerosF (r c : Nat) (w : World) (hr : r ≤ 100000) (hc : c ≤ 100000) :
    Calls Try.prog 81 #[.int .i64 r, .int .i64 c] w fun e w' => e = .returned (.slice (some ⟨w.heap.size, 0, none⟩) r r) ∧
      Mx w' w.heap.size w.heap.size 68 47 r (fun i => w.heap.size + 1 + i) c (c * 2) (fun _ _ => .bool false) ∧ Below w.heap.size w w' := by
  have hmk1 := run_make_row' (P := Try.prog) 43 68 (.slice none 0 0) 24 Try.underlying43 foursInfo rfl .i64 .i64 r (by omega) (by omega)
  have hmk2 := run_make_rowM (P := Try.prog) 68 47 _ 2 2 Try.underlying68 fourInfo .i64 .i64 c (by omega) (by omega)
  simp only [Value.cells] at hmk2
  go_enter Try.func81, Try.ntmps81
  go_wp2
  go_loopg [11] r (fun g i wr => ∃ k : Nat, k ≤ r ∧ g = r - k ∧ i = .int .i64 k ∧ Zs w wr 68 47 r k c (c * 2) (fun _ => .bool false))
  case atStart => exact ⟨0, Nat.zero_le _, rfl, rfl, Zs.start _ _ _ _ _ _ _⟩
  case round =>
    obtain ⟨k, hk, rfl, rfl, hZ⟩ := hrel
    clear hmk1
    by_cases hlt : k < r
    · have hst1 : ∀ o, (wr.alloc o).cell? ⟨w.heap.size, k, none⟩ = some (.slice none 0 0) := fun o => by simpa using (hZ.top.alloc o).cell hlt
      have hst2 : ∀ o, (wr.alloc o).frozen? ⟨w.heap.size, k, none⟩ = false := fun o => (hZ.top.alloc o).frozen k
      go_wp2
      go_roundg (r - (k + 1))
      case measure => omega
      case rel => exact ⟨k + 1, by omega, rfl, by go_num, hZ.step (rowIs_made2 _ _ _)⟩
    · have : k = r := by omega
      subst this
      go_wp2
      go_ret
      exact ⟨rfl, hZ.done, hZ.below⟩

set_option maxHeartbeats 400000 in
theorem identE (n : Nat) (one : Int) (w : World) (hn : n ≤ 255) :
    Calls Try.prog 18 #[.int .i64 n, .int .u8 one] w fun e w' => ∃ b S, e = .returned (.tuple #[.slice (some ⟨b, 0, none⟩) n n, .int .i64 0]) ∧
      Mx w' w.heap.size b 62 34 n S n n (fun i j => if i = j then .int .u8 one else .int .u8 0) ∧ Below w.heap.size w w' := by
  go_enter Try.func18, Try.ntmps18
  go_wp2_with (go_at_call 79; (with_reducible refine (zerosE n n _ (by omega) (by omega)).mono ?_); rintro e w1 ⟨rfl, hM, hbel⟩)
  go_loopg [7, 17] n (fun g _ i wr => ∃ k : Nat, k ≤ n ∧ g = n - k ∧ i = .int .i64 k ∧ Below w.heap.size w wr ∧
    Mx wr w.heap.size w.heap.size 62 34 n (fun i => w.heap.size + 1 + i) n n (fun i j => if i < k ∧ i = j then .int .u8 one else .int .u8 0))
  case atStart => exact ⟨0, Nat.zero_le _, rfl, rfl, hbel, hM.congr (by intro i j _ _; simp)⟩
  case round =>
    clear hM hbel
    obtain ⟨k, hk, rfl, rfl, hbel, hM⟩ := hrel
    by_cases hlt : k < n
    · have h1 := hM.top.cell hlt
      have h2 := (hM.row k hlt).cell hlt
      have h3 := (hM.row k hlt).frozen k
      go_wp2
      go_roundg (n - (k + 1))
      case measure => omega
      case rel =>
        refine ⟨k + 1, by omega, rfl, by go_num, hbel.setCell (by simp; omega) _, (hM.set hlt k _).congr ?_⟩
        intro i j _ _
        by_cases e1 : i = k ∧ j = k
        · simp [e1.1, e1.2]
        · rw [if_neg e1]; by_cases e2 : i = j
          · subst e2; have : i ≠ k := fun h => e1 ⟨h, h⟩
            by_cases e3 : i < k
            · simp [e3, show i < k + 1 by omega]
            · simp [e3, show ¬ i < k + 1 by omega]
          · simp [e2]
    · have : k = n := by omega
      subst this
      go_wp2
      go_ret2
      exact ⟨_, _, rfl, hM.congr (by intro i j hi _; simp [hi]), hbel⟩

set_option maxHeartbeats 400000 in
theorem identB (n : Nat) (one : Bool) (w : World) (hn : n ≤ 255) :
    Calls Try.prog 21 #[.int .i64 n, .bool one] w fun e w' => ∃ b S, e = .returned (.tuple #[.slice (some ⟨b, 0, none⟩) n n, .int .i64 0]) ∧
      Mx w' w.heap.size b 65 40 n S n n (fun i j => if i = j then .bool one else .bool false) ∧ Below w.heap.size w w' := by
  go_enter Try.func21, Try.ntmps21
  go_wp2_with (go_at_call 80; (with_reducible refine (zerosB n n _ (by omega) (by omega)).mono ?_); rintro e w1 ⟨rfl, hM, hbel⟩)
  go_loopg [7, 17] n (fun g _ i wr => ∃ k : Nat, k ≤ n ∧ g = n - k ∧ i = .int .i64 k ∧ Below w.heap.size w wr ∧
    Mx wr w.heap.size w.heap.size 65 40 n (fun i => w.heap.size + 1 + i) n n (fun i j => if i < k ∧ i = j then .bool one else .bool false))
  case atStart => exact ⟨0, Nat.zero_le _, rfl, rfl, hbel, hM.congr (by intro i j _ _; simp)⟩
  case round =>
    clear hM hbel
    obtain ⟨k, hk, rfl, rfl, hbel, hM⟩ := hrel
    by_cases hlt : k < n
    · have h1 := hM.top.cell hlt
      have h2 := (hM.row k hlt).cell hlt
      have h3 := (hM.row k hlt).frozen k
      go_wp2
      go_roundg (n - (k + 1))
      case measure => omega
      case rel =>
        refine ⟨k + 1, by omega, rfl, by go_num, hbel.setCell (by simp; omega) _, (hM.set hlt k _).congr ?_⟩
        intro i j _ _
        by_cases e1 : i = k ∧ j = k
        · simp [e1.1, e1.2]
        · rw [if_neg e1]; by_cases e2 : i = j
          · subst e2; have : i ≠ k := fun h => e1 ⟨h, h⟩
            by_cases e3 : i < k
            · simp [e3, show i < k + 1 by omega]
            · simp [e3, show ¬ i < k + 1 by omega]
          · simp [e2]
    · have : k = n := by omega
      subst this
      go_wp2
      go_ret2
      exact ⟨_, _, rfl, hM.congr (by intro i j hi _; simp [hi]), hbel⟩

def fcell (o0 o1 : Bool) (j : Nat) : Value := if j % 2 = 0 then .bool o0 else .bool o1
set_option maxHeartbeats 800000 in
theorem identF (n : Nat) (o0 o1 : Bool) (w : World) (hn : n ≤ 255) :
    Calls Try.prog 24 #[.int .i64 n, .agg #[.bool o0, .bool o1]] w fun e w' => ∃ b S, e = .returned (.tuple #[.slice (some ⟨b, 0, none⟩) n n, .int .i64 0]) ∧
      Mx w' w.heap.size b 68 47 n S n (n * 2) (fun i j => if i = j / 2 then fcell o0 o1 j else .bool false) ∧ Below w.heap.size w w' := by
  go_enter Try.func24, Try.ntmps24
  go_wp2_with (go_at_call 81; (with_reducible refine (zerosF n n _ (by omega) (by omega)).mono ?_); rintro e w1 ⟨rfl, hM, hbel⟩)
  have hM0 : Mx w1 (w.heap.size + 1) (w.heap.size + 1) 68 47 n (fun i => w.heap.size + 1 + 1 + i) n (n * 2) (fun _ _ => .bool false) := by simpa using hM
  have hb0 : Below w.heap.size w w1 := ((Below.refl _ _).alloc (Nat.le_refl _) _).trans (hbel.mono (by simp))
  have hx0 : w1.cell? ⟨w.heap.size, 0, none⟩ = some (.bool o0) := by rw [hbel.cell (by simp)]; go_simp
  have hx1 : w1.cell? ⟨w.heap.size, 1, none⟩ = some (.bool o1) := by rw [hbel.cell (by simp)]; go_simp
  clear hM hbel
  go_loopg [7, 17] n (fun g _ i wr => ∃ k : Nat, k ≤ n ∧ g = n - k ∧ i = .int .i64 k ∧ Below w.heap.size w wr ∧ wr.cell? ⟨w.heap.size, 0, none⟩ = some (.bool o0) ∧ wr.cell? ⟨w.heap.size, 1, none⟩ = some (.bool o1) ∧
    Mx wr (w.heap.size + 1) (w.heap.size + 1) 68 47 n (fun i => w.heap.size + 1 + 1 + i) n (n * 2) (fun i j => if i < k ∧ i = j / 2 then fcell o0 o1 j else .bool false))
  case atStart => exact ⟨0, Nat.zero_le _, rfl, rfl, hb0, hx0, hx1, hM0.congr (by intro i j _ _; simp)⟩
  case round =>
    clear hM0 hb0 hx0 hx1
    obtain ⟨k, hk, rfl, rfl, hbel, hx0, hx1, hM⟩ := hrel
    by_cases hlt : k < n
    · have h1 := hM.top.cell hlt
      have h2 := (hM.row k hlt).cell (show k * 2 < n * 2 by omega)
      have h2' := (hM.row k hlt).cell (show k * 2 + 1 < n * 2 by omega)
      have h3 := (hM.row k hlt).frozen (k * 2)
      have h3' := (hM.row k hlt).frozen (k * 2 + 1)
      go_wp2
      go_region
      go_wp2
      go_roundg (n - (k + 1))
      case measure => omega
      case rel =>
        refine ⟨k + 1, by omega, rfl, by go_num, ((hbel.setCell (by simp; omega) _).setCell (by simp; omega) _).drew, ?_, ?_, (((hM.set hlt (k * 2) (.bool o0)).set hlt (k * 2 + 1) (.bool o1)).drew).congr ?_⟩
        · exact ((cell_set_ne _ (by simp; omega)).trans (cell_set_ne _ (by simp; omega))).trans hx0
        · exact ((cell_set_ne _ (by simp; omega)).trans (cell_set_ne _ (by simp; omega))).trans hx1
        · intro i j _ _
          by_cases e1 : i = k
          · subst e1
            by_cases e2 : j = i * 2 + 1
            · subst e2; simp [fcell, show (i * 2 + 1) / 2 = i by omega]
            · by_cases e3 : j = i * 2
              · subst e3; simp [fcell]
              · have : ¬ i = j / 2 := by omega
                simp [e2, e3, this]
          · by_cases e3 : i < k
            · simp [e1, e3, show i < k + 1 by omega]
            · simp [e1, e3, show ¬ i < k + 1 by omega]
    · have : k = n := by omega
      subst this
      go_wp2
      go_ret2
      have hM2 := hM.congr (g := fun i j => if i = j / 2 then fcell o0 o1 j else .bool false) (by intro i j hi _; simp [hi])
      exact ⟨_, _, rfl, ⟨hM2.top, hM2.row, by omega, fun i hi => by omega, hM2.inj, hM2.off⟩, hbel⟩
theorem identE_neg (N : Int) (one : Int) (w : World) (h : N < 0) :
    Calls Try.prog 18 #[.int .i64 N, .int .u8 one] w fun e w' => e = .returned (.tuple #[.slice none 0 0, .int .i64 2]) ∧ Below w.heap.size w w' := by
  go_enter Try.func18, Try.ntmps18
  go_wp2
  go_ret2
  exact ⟨rfl, Below.refl _ _⟩

theorem identE_big (N : Int) (one : Int) (w : World) (h : 255 < N) :
    Calls Try.prog 18 #[.int .i64 N, .int .u8 one] w fun e w' => e = .returned (.tuple #[.slice none 0 0, .int .i64 3]) ∧ Below w.heap.size w w' := by
  go_enter Try.func18, Try.ntmps18
  go_wp2
  go_ret2
  exact ⟨rfl, Below.refl _ _⟩

theorem identB_neg (N : Int) (one : Bool) (w : World) (h : N < 0) :
    Calls Try.prog 21 #[.int .i64 N, .bool one] w fun e w' => e = .returned (.tuple #[.slice none 0 0, .int .i64 2]) ∧ Below w.heap.size w w' := by
  go_enter Try.func21, Try.ntmps21
  go_wp2
  go_ret2
  exact ⟨rfl, Below.refl _ _⟩

theorem identB_big (N : Int) (one : Bool) (w : World) (h : 255 < N) :
    Calls Try.prog 21 #[.int .i64 N, .bool one] w fun e w' => e = .returned (.tuple #[.slice none 0 0, .int .i64 3]) ∧ Below w.heap.size w w' := by
  go_enter Try.func21, Try.ntmps21
  go_wp2
  go_ret2
  exact ⟨rfl, Below.refl _ _⟩

theorem identF_neg (N : Int) (o0 o1 : Bool) (w : World) (h : N < 0) :
    Calls Try.prog 24 #[.int .i64 N, .agg #[.bool o0, .bool o1]] w fun e w' => e = .returned (.tuple #[.slice none 0 0, .int .i64 2]) ∧ Below w.heap.size w w' := by
  go_enter Try.func24, Try.ntmps24
  go_wp2
  go_ret2
  exact ⟨rfl, (Below.refl _ _).alloc (Nat.le_refl _) _⟩

theorem identF_big (N : Int) (o0 o1 : Bool) (w : World) (h : 255 < N) :
    Calls Try.prog 24 #[.int .i64 N, .agg #[.bool o0, .bool o1]] w fun e w' => e = .returned (.tuple #[.slice none 0 0, .int .i64 3]) ∧ Below w.heap.size w w' := by
  go_enter Try.func24, Try.ntmps24
  go_wp2
  go_ret2
  exact ⟨rfl, (Below.refl _ _).alloc (Nat.le_refl _) _⟩

theorem rident_neg (N one : Int) (w : World) (h : N < 0) :
    Calls Try.prog 17 #[.int .i64 N, .int .i64 one] w fun e w' => e = .returned (.tuple #[.slice none 0 0, .int .i64 2]) ∧ w = w' := by
  go_enter Try.func17, Try.ntmps17
  go_wp2
  go_ret2
  exact ⟨rfl, rfl⟩

theorem rident_big (N one : Int) (w : World) (h : 255 < N) :
    Calls Try.prog 17 #[.int .i64 N, .int .i64 one] w fun e w' => e = .returned (.tuple #[.slice none 0 0, .int .i64 3]) ∧ w = w' := by
  go_enter Try.func17, Try.ntmps17
  go_wp2
  go_ret2
  exact ⟨rfl, rfl⟩


theorem rzeros (n : Nat) (w : World) (hn : n ≤ 1000000) :
    Calls Try.prog 78 #[.int .i64 n] w fun e w' => ∃ v, e = .returned v ∧ Own w' w.heap.size 3 1 v n (fun _ => [.int .i64 0]) ∧ Below w.heap.size w w' := by
  go_enter Try.func78, Try.ntmps78
  go_wp2
  go_loopg [3, 4] n (fun g v i wr => ∃ k : Nat, k ≤ n ∧ g = n - k ∧ i = .int .i64 k ∧ Own wr w.heap.size 3 1 v k (fun _ => [.int .i64 0]) ∧ Below w.heap.size w wr)
  case atStart => exact ⟨0, Nat.zero_le _, rfl, rfl, Own.nil _ _ _ _ _, Below.refl _ _⟩
  case round =>
    obtain ⟨k, hk, rfl, rfl, hown, hbel⟩ := hrel
    have hsz := hbel.size
    by_cases hlt : k < n
    · go_wp2_with (at_builtin; refine wpList_push _ rfl (.tmp 10) (.tmp 11) 23 rfl w.heap.size 3 1 8 (.int .i64 0) #[.int .i64 0] Try.underlying23 intInfo rfl (by decide) _ k _ rfl hown hsz _ rfl rfl rfl rfl rfl (by omega) (by omega) ?_)
      · intro v' w1 hown' hbel' _ _
        have hbel2 : Below w.heap.size w w1 := hbel.trans hbel'
        clear hown hbel hbel'
        go_wp2
        go_roundg (n - (k + 1))
        case measure => omega
        case rel => exact ⟨k + 1, by omega, rfl, by go_num, hown', hbel2⟩
    · have : k = n := by omega
      subst this
      go_wp2
      go_ret
      exact ⟨_, rfl, hown, hbel⟩

set_option maxHeartbeats 400000 in
theorem rident (n : Nat) (one : Int) (w : World) (hn : n ≤ 255) :
    Calls Try.prog 17 #[.int .i64 n, .int .i64 one] w fun e w' => ∃ v S C, e = .returned (.tuple #[v, .int .i64 0]) ∧ OwnM w' w.heap.size 23 3 v n S C (fun _ => n) (fun i j => if j = i then .int .i64 one else .int .i64 0) ∧ Below w.heap.size w w' := by
  go_enter Try.func17, Try.ntmps17
  go_wp2
  go_loopg [6, 7] n (fun g v i wr => ∃ (k : Nat) (S : Nat → Option Addr) (C : Nat → Nat), k ≤ n ∧ g = n - k ∧ i = .int .i64 k ∧ OwnM wr w.heap.size 23 3 v k S C (fun _ => n) (fun i j => if j = i then .int .i64 one else .int .i64 0) ∧ Below w.heap.size w wr)
  case atStart => exact ⟨0, fun _ => none, fun _ => 0, Nat.zero_le _, rfl, rfl, OwnM.nil _ _ _ _ _ _ _ _, Below.refl _ _⟩
  case round =>
    obtain ⟨k, S, C, hk, rfl, rfl, hown, hbel⟩ := hrel
    have hsz := hbel.size
    by_cases hlt : k < n
    · go_wp2_with fail
      refine (rzeros n _ (by omega)).mono ?_
      rintro e w1 ⟨v1, rfl, hown1, hbel1⟩
      obtain ⟨g1, c1, rfl, hg1, hg1', _, hfz⟩ := hown1.form (by omega)
      have hc := hown1.cell1 hlt
      have hf := hfz k
      clear hfz
      have hsetB : Below wr.heap.size wr (w1.setCell ⟨g1, k, none⟩ (.int .i64 one)) := hbel1.setCell hg1 _
      have hown2 := (hown1.set1 hlt (.int .i64 one)).mono hsz
      have hownB := (hown.kept hsetB).next (some ⟨g1, 0, none⟩) c1
      have hu : Hid ((#[Value.slice (some ⟨g1, 0, none⟩) n c1] : Array Value).toList = [.slice (upd S k (some ⟨g1, 0, none⟩) k) n (upd C k c1 k)]) := by rw [upd_at, upd_at]; rfl
      have hown2' : Own (w1.setCell ⟨g1, k, none⟩ (.int .i64 one)) w.heap.size 3 1 (.slice (upd S k (some ⟨g1, 0, none⟩) k) n (upd C k c1 k)) n (fun j => [if j = k then .int .i64 one else .int .i64 0]) := by rw [upd_at, upd_at]; exact hown2
      have hbel1' := hbel.trans (hsetB.mono hsz)
      have hsz1 := hbel1'.size
      have hN : Hid ((w1.setCell ⟨g1, k, none⟩ (.int .i64 one)).heap.size = w1.heap.size) := by simp [Hid]
      clear hown hown1 hbel1 hbel hown2 hsetB
      go_wp2_with (at_builtin; refine wpList_push _ rfl (.tmp 24) (.tmp 26) 22 rfl w.heap.size 23 1 24 (.slice none 0 0) #[.slice (some ⟨g1, 0, none⟩) n c1] Try.underlying22 intsInfo rfl (by decide) _ k _ rfl hownB.1 hsz1 w1.heap.size hN.out rfl hu.out rfl rfl (by omega) (by omega) ?_)
      · intro v' w2 hown3 hbel2 hg2 _
        have hO := hownB.push (by decide) hown2' hown3 hg2
        have hbelF := hbel1'.trans hbel2
        clear hownB hown2' hown3 hg2 hbel2 hbel1' hc hf
        go_wp2
        go_roundg (n - (k + 1))
        case measure => omega
        case rel => exact ⟨k + 1, _, _, by omega, rfl, by go_num, hO, hbelF⟩
    · have : k = n := by omega
      subst this
      go_wp2
      go_ret2
      exact ⟨_, _, _, rfl, hown, hbel⟩
end Go.Proofs.Ytpocjpodeahanaa
