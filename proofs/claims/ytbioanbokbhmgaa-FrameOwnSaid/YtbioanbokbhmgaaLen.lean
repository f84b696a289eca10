/- The lengths of blocks: frame.lengths, the document's Sizes. Conditions: a shape that may be, a size up to 2^20. -/
import Derived.Test.YtbioanbokbhmgaaSz
namespace Go.Proofs.Ytbioanbokbhmgaa
open Go.RowKit

set_option maxHeartbeats 1000000 in
theorem lengths_any (K M B s : Nat) (w : World) (h : MayS K M B) (hs : s ≤ 1048576) :
    Calls Try.prog 46 #[.agg #[.int .i64 K, .int .i64 M, .int .i64 B], .int .i64 s] w fun e w' =>
      e = .returned (.slice (some ⟨w.heap.size + 1, 0, none⟩) (nblk (K * B) s) (nblk (K * B) s)) ∧ w'.rowIs (w.heap.size + 1) 3 (nblk (K * B) s) (fun j => .int .i64 (blen K B s j)) ∧ Below w.heap.size w w' := by
  obtain ⟨a1, a2, a3, a4, a5, a6⟩ := h
  have hS : K * B ≤ 255 * 65536 := Nat.mul_le_mul (by omega) (by omega)
  have hS1 : 1 ≤ K * B := Nat.mul_pos (by omega) (by omega)
  have hnb := nblk_le (S := K * B) (s := s) hS1
  obtain ⟨S, hSd⟩ : ∃ S, S = K * B := ⟨_, rfl⟩
  obtain ⟨n, hnd⟩ : ∃ n, n = nblk S s := ⟨_, rfl⟩
  rw [← hSd] at hS hS1 hnb ⊢
  have hKB : (K : Int) * (B : Int) = (S : Int) := by rw [hSd, Int.natCast_mul]
  have hq : ((s : Int) + (S : Int) - 1) / (S : Int) = (n : Int) := by
    rw [hnd]; unfold nblk
    rw [show ((s : Int) + (S : Int) - 1) = ((s + S - 1 : Nat) : Int) by omega]
    rfl
  have b1 : (S : Int) ≤ 16711680 := by omega
  have b0 : 1 ≤ (S : Int) := by omega
  have bn : n ≤ 1048576 := by omega
  rw [← hnd]
  have HN := Lib.hid hnd; have HS := Lib.hid hSd; clear hnd hSd hnb hS hS1
  have hmk := run_make_row' (P := Try.prog) 30 3 (.int .i64 0) 8 Try.underlying30 intInfo rfl .i64 .i64 n (by omega) (by omega)
  go_enter Try.func46, Try.ntmps46
  go_wp2
  clear hmk
  go_loopg [7, 23] n (fun g _ i wr => ∃ k : Nat, k ≤ n ∧ g = n - k ∧ i = .int .i64 k ∧ Below w.heap.size w wr ∧ wr.cell? ⟨w.heap.size, 0, none⟩ = some (.int .i64 K) ∧ wr.cell? ⟨w.heap.size, 2, none⟩ = some (.int .i64 B) ∧
    wr.rowIs (w.heap.size + 1) 3 n (fun j => if j < k then .int .i64 B else .int .i64 0))
  case atStart =>
    refine ⟨0, Nat.zero_le _, rfl, rfl, ((Below.refl _ _).alloc (Nat.le_refl _) _).alloc (by simp) _, by go_simp, by go_simp, ?_⟩
    have := World.rowIs_made (w.alloc (.cells #[.int .i64 K, .int .i64 M, .int .i64 B] 24)) (.int .i64 0) n 3
    simpa using this
  case round =>
    obtain ⟨k, hk, rfl, rfl, hbel, hK, hB, hrow⟩ := hrel
    by_cases hlt : k < n
    · have h1 := hrow.cell hlt
      have h2 := hrow.frozen k
      go_wp2
      go_roundg (n - (k + 1))
      case measure => omega
      case rel =>
        refine ⟨k + 1, by omega, rfl, by go_num, ?_, ?_, ?_, ?_⟩
        · first | exact hbel.setCell (by simp) _ | exact (hbel.setCell (by simp) _).drew
        · exact (cell_set_ne _ (by simp)).trans hK
        · exact (cell_set_ne _ (by simp)).trans hB
        · refine (hrow.set k _).congr fun j hj => ?_
          by_cases e : j = k
          · simp [e]
          · by_cases e2 : j < k
            · simp [e, e2, show j < k + 1 by omega]
            · simp [e, e2, show ¬ j < k + 1 by omega]
    · have hkn : k = n := by omega
      subst hkn
      by_cases hl : 0 < s % S
      · have hl1 : (0 : Int) < (s : Int) % (S : Int) := by omega
        have hnpos : 0 < k := by
          rw [HN.out]; unfold nblk
          have : 1 ≤ s := by
            rcases Nat.eq_zero_or_pos s with h | h
            · subst h; simp at hl
            · exact h
          exact Nat.div_pos (by omega) (by omega)
        have h1 := hrow.cell (show k - 1 < k by omega)
        have h2 := hrow.frozen (k - 1)
        have e1 : ((k : Int) - 1).toNat = k - 1 := by omega
        have hsm : (s : Int) % (S : Int) < S := Int.emod_lt_of_pos _ (by omega)
        go_wp2
        go_ret
        refine ⟨rfl, (hrow.set (k - 1) _).congr fun j hj => ?_, hbel.setCell (by simp) _⟩
        unfold blen
        rw [← HS.out, ← HN.out]
        by_cases e : j = k - 1
        · rw [if_pos e, if_pos ⟨by omega, hl⟩]
          congr 1
          rw [show ((s : Int) % (S : Int) + (K : Int) - 1) = ((s % S + K - 1 : Nat) : Int) by omega]
          rfl
        · rw [if_neg e, if_pos hj, if_neg (by omega)]
      · have hl1 : (s : Int) % (S : Int) = 0 := by omega
        go_wp2
        go_ret
        refine ⟨rfl, hrow.congr fun j hj => ?_, hbel⟩
        unfold blen
        rw [← HS.out]
        simp [hj, hl]

/-- What the document's loop makes of what is left. -/
theorem rest_len {S K B s k n : Nat} (hS : S = K * B) (hn : n = nblk S s) (h1 : 1 ≤ S) (hK : 1 ≤ K) (_hk : k < n) (r : Nat) (hr : r + k * S = s) (hr0 : 0 < r) :
    (min r S + K - 1) / K = blen K B s k := by
  have hdiv : s / S = k + r / S := by rw [← hr, Nat.add_comm, Nat.mul_comm, Nat.mul_add_div (by omega)]
  have hmod : s % S = r % S := by rw [← hr, Nat.add_mul_mod_self_right]
  have hceil : nblk S s = k + nblk S r := by
    unfold nblk
    rw [← hr, show r + k * S + S - 1 = S * k + (r + S - 1) by rw [Nat.mul_comm]; omega, Nat.mul_add_div (by omega)]
  unfold blen
  rw [← hS]
  by_cases hle : r ≤ S
  · rw [Nat.min_eq_left hle]
    by_cases he : r = S
    · subst he
      rw [hmod, Nat.mod_self, if_neg (by omega), hS]
      have : (K * B + K - 1) / K = B := by
        rw [show K * B + K - 1 = K * B + (K - 1) by omega, Nat.mul_add_div (by omega), Nat.div_eq_of_lt (by omega)]; rfl
      exact this
    · have : nblk S r = 1 := by
        unfold nblk
        rw [show r + S - 1 = S * 1 + (r - 1) by omega, Nat.mul_add_div (by omega), Nat.div_eq_of_lt (by omega)]
      rw [if_pos ⟨by omega, by rw [hmod, Nat.mod_eq_of_lt (by omega)]; exact hr0⟩, hmod, Nat.mod_eq_of_lt (by omega)]
  · rw [Nat.min_eq_right (by omega)]
    have h2 : 2 ≤ nblk S r := by
      unfold nblk
      exact (Nat.le_div_iff_mul_le (by omega)).2 (by omega)
    rw [if_neg (by omega), hS]
    rw [show K * B + K - 1 = K * B + (K - 1) by omega, Nat.mul_add_div (by omega), Nat.div_eq_of_lt (by omega)]; rfl

theorem ceil_up {r K : Nat} (hK : 1 ≤ K) (d : (r : Int) / (K : Int) * (K : Int) < r) : (r : Int) / (K : Int) + 1 = ((r + K - 1) / K : Nat) := by
  have hm := Nat.div_add_mod' r K
  have hlt := Nat.mod_lt r (show K > 0 by omega)
  have h1 : r / K * K < r := by
    have : ((r / K * K : Nat) : Int) < r := by rw [Int.natCast_mul]; exact d
    omega
  have h2 : (r + K - 1) / K = r / K + 1 := by
    refine Nat.div_eq_of_lt_le ?_ ?_
    · rw [Nat.add_mul]; omega
    · rw [Nat.add_mul, Nat.add_mul]; omega
  rw [h2]; rfl
theorem ceil_same {r K : Nat} (hK : 1 ≤ K) (d : ¬ (r : Int) / (K : Int) * (K : Int) < r) : (r : Int) / (K : Int) = ((r + K - 1) / K : Nat) := by
  have hm := Nat.div_add_mod' r K
  have h1 : ¬ r / K * K < r := fun h => d (by
    have : ((r / K * K : Nat) : Int) < r := by omega
    rw [Int.natCast_mul] at this; exact this)
  have h2 : (r + K - 1) / K = r / K := by
    refine Nat.div_eq_of_lt_le ?_ ?_
    · omega
    · rw [Nat.add_mul]; omega
  rw [h2]; rfl
theorem rest_next {S s n k r : Nat} (hn : n = nblk S s) (hS : 1 ≤ S) (hk : k < n) (hr : (r : Int) + (k * S : Nat) = s) :
    (k + 1 < n ∧ 0 < (r : Int) - S ∧ (r : Int) - S + ((k + 1) * S : Nat) = s) ∨ (k + 1 = n ∧ (r : Int) - S ≤ 0) := by
  have hm : (k + 1) * S = k * S + S := by rw [Nat.add_mul]; omega
  have hb : n * S ≤ s + S - 1 := by rw [hn]; unfold nblk; exact Nat.div_mul_le_self _ _
  have hb2 : s + S - 1 < (n + 1) * S := by
    rw [hn]; unfold nblk
    have := Nat.lt_mul_div_succ (s + S - 1) (show 0 < S by omega)
    rwa [Nat.mul_comm]  at this
  by_cases h : k + 1 < n
  · left
    have : (k + 1 + 1) * S ≤ n * S := Nat.mul_le_mul_right S h
    have h3 : (k + 1 + 1) * S = k * S + S + S := by rw [Nat.add_mul, hm]; omega
    exact ⟨h, by omega, by omega⟩
  · right
    have he : k + 1 = n := by omega
    have h3 : (n + 1) * S = k * S + S + S := by rw [← he, Nat.add_mul, hm]; omega
    have h4 : n * S = k * S + S := by rw [← he, hm]
    exact ⟨he, by omega⟩

def RSz (w : World) (K B s n : Nat) (e : Ending) (w' : World) : Prop := ∃ v, (if 4096 < n then e = .returned (.tuple #[.slice none 0 0, .int .i64 3]) else
      e = .returned (.tuple #[v, .int .i64 0]) ∧ Own w' w.heap.size 3 1 v n (fun j => [.int .i64 (blen K B s j)])) ∧ Below w.heap.size w w'
set_option maxHeartbeats 2000000 in
theorem rsizes_any (K M B s : Nat) (w : World) (h : MayS K M B) (hs : s ≤ 1048576) :
    Calls Try.prog 15 #[.agg #[.int .i64 K, .int .i64 M, .int .i64 B], .int .i64 s] w (RSz w K B s (nblk (K * B) s)) := by
  have hmay := h
  obtain ⟨a1, a2, a3, a4, a5, a6⟩ := h
  have hS : K * B ≤ 255 * 65536 := Nat.mul_le_mul (by omega) (by omega)
  have hS1 : 1 ≤ K * B := Nat.mul_pos (by omega) (by omega)
  have hnb := nblk_le (S := K * B) (s := s) hS1
  obtain ⟨S, hSd⟩ : ∃ S, S = K * B := ⟨_, rfl⟩
  obtain ⟨n, hnd⟩ : ∃ n, n = nblk S s := ⟨_, rfl⟩
  rw [← hSd] at hS hS1 hnb ⊢
  have hKB : (K : Int) * (B : Int) = (S : Int) := by rw [hSd, Int.natCast_mul]
  have b1 : (S : Int) ≤ 16711680 := by omega
  have b0 : 1 ≤ (S : Int) := by omega
  have bn : n ≤ 1048576 := by omega
  rw [← hnd]
  have HN := Lib.hid hnd; have HS := Lib.hid hSd; clear hnd hSd hnb hS hS1
  go_enter Try.func15, Try.ntmps15
  go_wp2_with fail
  refine (fits_yes K M B _ hmay).mono ?_
  rintro e w1 ⟨rfl, hb1⟩
  have hK1 : w1.cell? ⟨w.heap.size, 0, none⟩ = some (.int .i64 K) := by rw [hb1.cell (by simp)]; go_simp
  have hB1 : w1.cell? ⟨w.heap.size, 2, none⟩ = some (.int .i64 B) := by rw [hb1.cell (by simp)]; go_simp
  have hz1 : w.heap.size + 1 ≤ w1.heap.size := by have := hb1.size; simpa using this
  have hbel1 : Below w.heap.size w w1 := ((Below.refl _ _).alloc (Nat.le_refl _) _).trans (hb1.mono (by simp))
  clear hb1
  go_wp2
  go_loopg [7, 8, 9, 10] s (fun g v i _ _ wr => ∃ (k : Nat) (R : Int), g = R.toNat ∧ i = .int .i64 R ∧ k ≤ n ∧ -20000000 ≤ R ∧ R ≤ 1048576 ∧ ((k < n ∧ 0 < R ∧ R + (k * S : Nat) = s) ∨ (k = n ∧ R ≤ 0)) ∧
    Own wr (w.heap.size + 1) 3 1 v k (fun j => [.int .i64 (blen K B s j)]) ∧ Below w.heap.size w wr ∧ w.heap.size + 1 ≤ wr.heap.size ∧ wr.cell? ⟨w.heap.size, 0, none⟩ = some (.int .i64 K) ∧ wr.cell? ⟨w.heap.size, 2, none⟩ = some (.int .i64 B))
  case atStart =>
    refine ⟨0, s, by omega, rfl, Nat.zero_le _, by omega, by omega, ?_, Own.nil _ _ _ _ _, hbel1, hz1, hK1, hB1⟩
    rcases Nat.eq_zero_or_pos n with h0 | h0
    · right
      refine ⟨h0.symm, ?_⟩
      have := HN.out
      rw [h0] at this
      unfold nblk at this
      have := (Nat.div_eq_zero_iff_lt (by omega)).1 this.symm
      omega
    · left
      refine ⟨h0, ?_, by simp⟩
      have := HN.out
      unfold nblk at this
      rcases Nat.eq_zero_or_pos s with hs0 | hs0
      · subst hs0; rw [Nat.div_eq_of_lt (by omega)] at this; omega
      · omega
  case round =>
    clear hK1 hB1 hbel1 hz1
    obtain ⟨k, R, rfl, rfl, hkn, hR1, hR2, hcase, hown, hbel, hz, hK, hB⟩ := hrel
    rcases hcase with ⟨hlt, hr0, hr⟩ | ⟨rfl, hR0⟩
    · obtain ⟨r, rfl⟩ := Int.eq_ofNat_of_zero_le (show 0 ≤ R by omega)
      have hlen := rest_len HS.out HN.out (by omega) (by omega) hlt r (by omega) (by omega)
      have HLn := Lib.hid hlen
      have HR := Lib.hid hr
      have hK0 : 0 < (K : Int) := by omega
      clear hlen hr
      have next : ∀ (X : Int), X = (blen K B s k : Nat) → Hid (((#[Value.int .i64 X] : Array Value).toList) = [.int .i64 (blen K B s k)]) := fun X hX => by rw [hX]; rfl
      have hnext : (k + 1 < n ∧ 0 < (r : Int) - S ∧ (r : Int) - S + ((k + 1) * S : Nat) = s) ∨ (k + 1 = n ∧ (r : Int) - S ≤ 0) := rest_next HN.out (by omega) hlt HR.out
      have HX := Lib.hid hnext
      clear hnext
      by_cases c : r ≤ S
      · have hq1 : (r : Int) / (K : Int) ≤ r := Int.ediv_le_self _ (by omega)
        have hq0 : 0 ≤ (r : Int) / (K : Int) := Int.ediv_nonneg (by omega) (by omega)
        have hq2 : (r : Int) / (K : Int) * (K : Int) ≤ r := Int.ediv_mul_le _ (by omega)
        have hq3 : 0 ≤ (r : Int) / (K : Int) * (K : Int) := Int.mul_nonneg hq0 (by omega)
        by_cases d : (r : Int) / (K : Int) * (K : Int) < r
        · have hu := next ((r : Int) / (K : Int) + 1) (by
            rw [← HLn.out, Nat.min_eq_left c, ceil_up (by omega) d])
          clear next
          go_wp2_with (at_builtin; refine wpList_push _ rfl (.tmp 54) (.tmp 56) 30 rfl (w.heap.size + 1) 3 1 8 (.int .i64 0) #[.int .i64 ((r : Int) / (K : Int) + 1)] Try.underlying30 intInfo rfl (by decide) _ k _ rfl hown hz _ rfl rfl hu.out rfl rfl (by omega) (by omega) ?_)
          intro v' w2 hown2 hbel2 hg2 _
          have hbF : Below w.heap.size w w2 := hbel.trans (hbel2.mono (by omega))
          have hzF : w.heap.size + 1 ≤ w2.heap.size := Nat.le_trans hz hbel2.size
          have hne := fun x hx => (hown.lt x hx).1
          have hK2 : w2.cell? ⟨w.heap.size, 0, none⟩ = some (.int .i64 K) := hg2.cell hK (fun e => Nat.not_succ_le_self _ (hne _ e.symm))
          have hB2 : w2.cell? ⟨w.heap.size, 2, none⟩ = some (.int .i64 B) := hg2.cell hB (fun e => Nat.not_succ_le_self _ (hne _ e.symm))
          clear hown hbel hbel2 hg2 hz hK hB hne
          go_wp2
          go_roundg ((r : Int) - S).toNat
          case measure => omega
          case rel => exact ⟨k + 1, _, rfl, rfl, by omega, by omega, by omega, HX.out, hown2, hbF, hzF, hK2, hB2⟩
        · have hu := next ((r : Int) / (K : Int)) (by
            rw [← HLn.out, Nat.min_eq_left c, ceil_same (by omega) d])
          clear next
          go_wp2_with (at_builtin; refine wpList_push _ rfl (.tmp 54) (.tmp 56) 30 rfl (w.heap.size + 1) 3 1 8 (.int .i64 0) #[.int .i64 ((r : Int) / (K : Int))] Try.underlying30 intInfo rfl (by decide) _ k _ rfl hown hz _ rfl rfl hu.out rfl rfl (by omega) (by omega) ?_)
          intro v' w2 hown2 hbel2 hg2 _
          have hbF : Below w.heap.size w w2 := hbel.trans (hbel2.mono (by omega))
          have hzF : w.heap.size + 1 ≤ w2.heap.size := Nat.le_trans hz hbel2.size
          have hne := fun x hx => (hown.lt x hx).1
          have hK2 : w2.cell? ⟨w.heap.size, 0, none⟩ = some (.int .i64 K) := hg2.cell hK (fun e => Nat.not_succ_le_self _ (hne _ e.symm))
          have hB2 : w2.cell? ⟨w.heap.size, 2, none⟩ = some (.int .i64 B) := hg2.cell hB (fun e => Nat.not_succ_le_self _ (hne _ e.symm))
          clear hown hbel hbel2 hg2 hz hK hB hne
          go_wp2
          go_roundg ((r : Int) - S).toNat
          case measure => omega
          case rel => exact ⟨k + 1, _, rfl, rfl, by omega, by omega, by omega, HX.out, hown2, hbF, hzF, hK2, hB2⟩
      · have hq1 : (S : Int) / (K : Int) ≤ S := Int.ediv_le_self _ (by omega)
        have hq0 : 0 ≤ (S : Int) / (K : Int) := Int.ediv_nonneg (by omega) (by omega)
        have hq4 : (S : Int) / (K : Int) * (K : Int) = S := Int.ediv_mul_cancel ⟨B, by rw [hKB]⟩
        have hq2 : (S : Int) ≤ (S : Int) / (K : Int) * (K : Int) := by omega
        have hq3 : (S : Int) / (K : Int) * (K : Int) ≤ S := by omega
        clear hq4
        have hu := next ((S : Int) / (K : Int)) (by
          rw [← HLn.out, Nat.min_eq_right (by omega), ceil_same (by omega) (by omega)])
        clear next
        go_wp2_with (at_builtin; refine wpList_push _ rfl (.tmp 54) (.tmp 56) 30 rfl (w.heap.size + 1) 3 1 8 (.int .i64 0) #[.int .i64 ((S : Int) / (K : Int))] Try.underlying30 intInfo rfl (by decide) _ k _ rfl hown hz _ rfl rfl hu.out rfl rfl (by omega) (by omega) ?_)
        intro v' w2 hown2 hbel2 hg2 _
        have hbF : Below w.heap.size w w2 := hbel.trans (hbel2.mono (by omega))
        have hzF : w.heap.size + 1 ≤ w2.heap.size := Nat.le_trans hz hbel2.size
        have hne := fun x hx => (hown.lt x hx).1
        have hK2 : w2.cell? ⟨w.heap.size, 0, none⟩ = some (.int .i64 K) := hg2.cell hK (fun e => Nat.not_succ_le_self _ (hne _ e.symm))
        have hB2 : w2.cell? ⟨w.heap.size, 2, none⟩ = some (.int .i64 B) := hg2.cell hB (fun e => Nat.not_succ_le_self _ (hne _ e.symm))
        clear hown hbel hbel2 hg2 hz hK hB hne
        go_wp2
        go_roundg ((r : Int) - S).toNat
        case measure => omega
        case rel => exact ⟨k + 1, _, rfl, rfl, by omega, by omega, by omega, HX.out, hown2, hbF, hzF, hK2, hB2⟩
    · by_cases c : 4096 < k
      · obtain ⟨A, cp, rfl, _, _, _, _⟩ := hown.rd
        go_wp2
        go_ret2
        unfold RSz
        exact ⟨.slice none 0 0, by rw [if_pos (by omega)]; rfl, hbel⟩
      · obtain ⟨A, cp, rfl, _, _, _, _⟩ := hown.rd
        go_wp2
        go_ret2
        unfold RSz
        exact ⟨_, by rw [if_neg (by omega)]; exact ⟨rfl, hown.mono (by omega)⟩, hbel⟩

theorem rsizes_shape (K M B s : Int) (w : World) (h : ¬ MayS K M B) :
    Calls Try.prog 15 #[.agg #[.int .i64 K, .int .i64 M, .int .i64 B], .int .i64 s] w fun e w' => e = .returned (.tuple #[.slice none 0 0, .int .i64 4]) ∧ Below w.heap.size w w' := by
  go_enter Try.func15, Try.ntmps15
  go_wp2_with fail
  refine (fits_no K M B _ h).mono ?_
  rintro e w1 ⟨rfl, hb1⟩
  go_wp2
  go_ret2
  exact ⟨rfl, ((Below.refl _ _).alloc (Nat.le_refl _) _).trans (hb1.mono (by simp))⟩
theorem rsizes_neg (K M B s : Int) (w : World) (h : MayS K M B) (hs : s < 0) :
    Calls Try.prog 15 #[.agg #[.int .i64 K, .int .i64 M, .int .i64 B], .int .i64 s] w fun e w' => e = .returned (.tuple #[.slice none 0 0, .int .i64 2]) ∧ Below w.heap.size w w' := by
  go_enter Try.func15, Try.ntmps15
  go_wp2_with fail
  refine (fits_yes K M B _ h).mono ?_
  rintro e w1 ⟨rfl, hb1⟩
  go_wp2
  go_ret2
  exact ⟨rfl, ((Below.refl _ _).alloc (Nat.le_refl _) _).trans (hb1.mono (by simp))⟩
theorem rsizes_large (K M B s : Int) (w : World) (h : MayS K M B) (hs : 1048576 < s) :
    Calls Try.prog 15 #[.agg #[.int .i64 K, .int .i64 M, .int .i64 B], .int .i64 s] w fun e w' => e = .returned (.tuple #[.slice none 0 0, .int .i64 3]) ∧ Below w.heap.size w w' := by
  go_enter Try.func15, Try.ntmps15
  go_wp2_with fail
  refine (fits_yes K M B _ h).mono ?_
  rintro e w1 ⟨rfl, hb1⟩
  go_wp2
  go_ret2
  exact ⟨rfl, ((Below.refl _ _).alloc (Nat.le_refl _) _).trans (hb1.mono (by simp))⟩

/-- The error of a shape and a size (0: none). -/
def sizeE (K M B s : Int) : Int := if MayS K M B then fitE K.toNat B.toNat s else 4
/-- How many lengths there are (none beside an error), each. -/
def sizeN (K M B s : Int) : Nat := if sizeE K M B s = 0 then nblk (K.toNat * B.toNat) s.toNat else 0

/-- The document's Sizes, whatever it is asked. -/
theorem rsizes_all (K M B s : Int) (w : World) :
    Calls Try.prog 15 #[.agg #[.int .i64 K, .int .i64 M, .int .i64 B], .int .i64 s] w fun e w' => ∃ v, e = .returned (.tuple #[v, .int .i64 (sizeE K M B s)]) ∧
      Own w' w.heap.size 3 1 v (sizeN K M B s) (fun j => [.int .i64 (blen K.toNat B.toNat s.toNat j)]) ∧ Below w.heap.size w w' := by
  by_cases h : MayS K M B
  · have e1 : sizeE K M B s = fitE K.toNat B.toNat s := by unfold sizeE; rw [if_pos h]
    by_cases h1 : s < 0
    · refine (rsizes_neg K M B s w h h1).mono fun e w' ⟨he, hb⟩ => ⟨.slice none 0 0, ?_, ?_, hb⟩
      · rw [e1]; unfold fitE; rw [if_pos h1]; exact he
      · unfold sizeN; rw [e1]; unfold fitE; rw [if_pos h1, if_neg (by decide)]; exact Own.nil _ _ _ _ _
    · by_cases h2 : 1048576 < s
      · refine (rsizes_large K M B s w h h2).mono fun e w' ⟨he, hb⟩ => ⟨.slice none 0 0, ?_, ?_, hb⟩
        · rw [e1]; unfold fitE; rw [if_neg h1, if_pos (.inl h2)]; exact he
        · unfold sizeN; rw [e1]; unfold fitE; rw [if_neg h1, if_pos (show 1048576 < s ∨ 4096 < nblk (K.toNat * B.toNat) s.toNat from .inl h2), if_neg (by decide)]; exact Own.nil _ _ _ _ _
      · have hK := h
        obtain ⟨a1, a2, a3, a4, a5, a6⟩ := hK
        obtain ⟨K', rfl⟩ := Int.eq_ofNat_of_zero_le (show 0 ≤ K by omega)
        obtain ⟨M', rfl⟩ := Int.eq_ofNat_of_zero_le (show 0 ≤ M by omega)
        obtain ⟨B', rfl⟩ := Int.eq_ofNat_of_zero_le (show 0 ≤ B by omega)
        obtain ⟨s', rfl⟩ := Int.eq_ofNat_of_zero_le (show 0 ≤ s by omega)
        refine (rsizes_any K' M' B' s' w h (by omega)).mono fun e w' ⟨v, he, hb⟩ => ?_
        simp only [Int.toNat_natCast] at e1 ⊢
        by_cases h3 : 4096 < nblk (K' * B') s'
        · rw [if_pos h3] at he
          have e2 : sizeE K' M' B' s' = 3 := by rw [e1]; unfold fitE; rw [if_neg h1, if_pos (.inr (by simpa using h3))]
          refine ⟨.slice none 0 0, by rw [e2]; exact he, ?_, hb⟩
          unfold sizeN; rw [e2, if_neg (by decide)]; exact Own.nil _ _ _ _ _
        · rw [if_neg h3] at he
          have e2 : sizeE K' M' B' s' = 0 := by rw [e1]; unfold fitE; rw [if_neg h1, if_neg (by simp; omega)]
          refine ⟨v, by rw [e2]; exact he.1, ?_, hb⟩
          unfold sizeN; rw [e2, if_pos rfl]; simpa using he.2
  · have e1 : sizeE K M B s = 4 := by unfold sizeE; rw [if_neg h]
    refine (rsizes_shape K M B s w h).mono fun e w' ⟨he, hb⟩ => ⟨.slice none 0 0, by rw [e1]; exact he, ?_, hb⟩
    unfold sizeN; rw [e1, if_neg (by decide)]; exact Own.nil _ _ _ _ _

set_option maxHeartbeats 800000 in
/-- The program's Sizes, whatever it is asked. -/
theorem fsizes_all (K M B s : Int) (w : World) :
    Calls Try.prog 17 #[.agg #[.int .i64 K, .int .i64 M, .int .i64 B], .int .i64 s] w fun e w' => ∃ v, e = .returned (.tuple #[v, .int .i64 (sizeE K M B s)]) ∧
      Own w' w.heap.size 3 1 v (sizeN K M B s) (fun j => [.int .i64 (blen K.toNat B.toNat s.toNat j)]) ∧ Below w.heap.size w w' := by
  by_cases h : MayS K M B
  · have e1 : sizeE K M B s = fitE K.toNat B.toNat s := by unfold sizeE; rw [if_pos h]
    have hK := h
    obtain ⟨a1, a2, a3, a4, a5, a6⟩ := hK
    obtain ⟨K', rfl⟩ := Int.eq_ofNat_of_zero_le (show 0 ≤ K by omega)
    obtain ⟨M', rfl⟩ := Int.eq_ofNat_of_zero_le (show 0 ≤ M by omega)
    obtain ⟨B', rfl⟩ := Int.eq_ofNat_of_zero_le (show 0 ≤ B by omega)
    simp only [Int.toNat_natCast] at e1 ⊢
    have HE := Lib.hid e1; clear e1
    by_cases hf : fitE K' B' s = 0
    · have hs : 0 ≤ s ∧ s ≤ 1048576 := by unfold fitE at hf; split at hf <;> (try split at hf) <;> omega
      obtain ⟨s', rfl⟩ := Int.eq_ofNat_of_zero_le hs.1
      have HF := Lib.hid hf; clear hf
      go_enter Try.func17, Try.ntmps17
      go_wp2_with fail
      refine (may_yes K' M' B' _ h).mono ?_
      rintro e w1 ⟨rfl, hb1⟩
      have k1 : ∀ i, w1.cell? ⟨w.heap.size, i, none⟩ = (w.alloc (.cells #[.int .i64 K', .int .i64 M', .int .i64 B'] 24)).cell? ⟨w.heap.size, i, none⟩ := fun i => hb1.cell (by simp)
      have c0 : w1.cell? ⟨w.heap.size, 0, none⟩ = some (.int .i64 K') := by rw [k1]; go_simp
      have c1 : w1.cell? ⟨w.heap.size, 1, none⟩ = some (.int .i64 M') := by rw [k1]; go_simp
      have c2 : w1.cell? ⟨w.heap.size, 2, none⟩ = some (.int .i64 B') := by rw [k1]; go_simp
      have hz1 : w.heap.size + 1 ≤ w1.heap.size := by have := hb1.size; simpa using this
      have hbel1 : Below w.heap.size w w1 := ((Below.refl _ _).alloc (Nat.le_refl _) _).trans (hb1.mono (by simp))
      clear hb1 k1
      go_wp2_with fail
      refine (ffits_any K' M' B' s' _ h).mono ?_
      rintro e w2 ⟨rfl, hb2⟩
      rw [HF.out]
      have c0' : w2.cell? ⟨w.heap.size, 0, none⟩ = some (.int .i64 K') := by rw [hb2.cell (by simp; omega)]; exact c0
      have c1' : w2.cell? ⟨w.heap.size, 1, none⟩ = some (.int .i64 M') := by rw [hb2.cell (by simp; omega)]; exact c1
      have c2' : w2.cell? ⟨w.heap.size, 2, none⟩ = some (.int .i64 B') := by rw [hb2.cell (by simp; omega)]; exact c2
      have hbel2 := hbel1.trans (hb2.mono (by omega))
      have hz2 := hb2.size
      clear c0 c1 c2 hb2 hbel1
      go_wp2_with fail
      refine (lengths_any K' M' B' s' _ h (by omega)).mono ?_
      rintro e w3 ⟨rfl, hrow, hb3⟩
      have hbF := hbel2.trans (hb3.mono (by omega))
      go_wp2
      go_ret2
      refine ⟨_, by rw [HE.out, HF.out]; rfl, ?_, hbF⟩
      unfold sizeN
      rw [HE.out, HF.out, if_pos rfl]
      exact own_of_row hrow (by omega) (by have := nblk_le (S := K' * B') (s := s') (Nat.mul_pos (by omega) (by omega)); unfold maxLen; omega)
    · have HF := Lib.hid hf; clear hf
      go_enter Try.func17, Try.ntmps17
      go_wp2_with fail
      refine (may_yes K' M' B' _ h).mono ?_
      rintro e w1 ⟨rfl, hb1⟩
      have k1 : ∀ i, w1.cell? ⟨w.heap.size, i, none⟩ = (w.alloc (.cells #[.int .i64 K', .int .i64 M', .int .i64 B'] 24)).cell? ⟨w.heap.size, i, none⟩ := fun i => hb1.cell (by simp)
      have c0 : w1.cell? ⟨w.heap.size, 0, none⟩ = some (.int .i64 K') := by rw [k1]; go_simp
      have c1 : w1.cell? ⟨w.heap.size, 1, none⟩ = some (.int .i64 M') := by rw [k1]; go_simp
      have c2 : w1.cell? ⟨w.heap.size, 2, none⟩ = some (.int .i64 B') := by rw [k1]; go_simp
      have hz1 : w.heap.size + 1 ≤ w1.heap.size := by have := hb1.size; simpa using this
      have hbel1 : Below w.heap.size w w1 := ((Below.refl _ _).alloc (Nat.le_refl _) _).trans (hb1.mono (by simp))
      clear hb1 k1
      go_wp2_with fail
      refine (ffits_any K' M' B' s _ h).mono ?_
      rintro e w2 ⟨rfl, hb2⟩
      have hbel2 := hbel1.trans (hb2.mono (by omega))
      have hne : (fitE K' B' s == 0) = false := by simpa using HF.out
      have hne' : (fitE K' B' s != 0) = true := by simpa using HF.out
      clear hb2 hbel1
      go_wp2
      go_ret2
      refine ⟨.slice none 0 0, by rw [HE.out]; rfl, ?_, hbel2⟩
      unfold sizeN
      rw [HE.out, if_neg HF.out]
      exact Own.nil _ _ _ _ _
  · have e1 : sizeE K M B s = 4 := by unfold sizeE; rw [if_neg h]
    have HE := Lib.hid e1; clear e1
    go_enter Try.func17, Try.ntmps17
    go_wp2_with fail
    refine (may_no K M B _ h).mono ?_
    rintro e w1 ⟨rfl, hb1⟩
    go_wp2
    go_ret2
    refine ⟨.slice none 0 0, by rw [HE.out]; rfl, ?_, ((Below.refl _ _).alloc (Nat.le_refl _) _).trans (hb1.mono (by simp))⟩
    unfold sizeN
    rw [HE.out, if_neg (by decide)]
    exact Own.nil _ _ _ _ _
end Go.Proofs.Ytbioanbokbhmgaa
