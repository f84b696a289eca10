/- Rows of a matrix of bytes: the walk. Conditions: the matrix and the indices lie in memory. -/
import Derived.Test.YthodpgkelmalmaaInvE
import Derived.OwnWalk
namespace Go.Proofs.Ythodpgkelmalmaa
open Go.RowKit

theorem elemSZ : (Try.prog.info? 57).map (·.size) = some 1 := by kernel_rfl
def RowsOut (B tR e sz m p : Nat) (t : Nat → Int) (L : Nat → Nat) (f : Nat → Nat → List Value) (w : World) (x : Ending) (w' : World) : Prop :=
  (p = m → ∃ v S C, x = .returned (.tuple #[v, .int .i64 0]) ∧ OwnQ w' B tR e sz v m S C (fun i => L (t i).toNat) (fun i j => f (t i).toNat j)) ∧ (p < m → x = .returned (.tuple #[.slice none 0 0, .int .i64 2])) ∧ Below B w w'


set_option maxRecDepth 20000 in
set_option maxHeartbeats 2000000 in
theorem rowsE (A At : Option Addr) (n m p cA cAt : Nat) (L : Nat → Nat) (g : Nat → Nat → Nat) (t : Nat → Int) (w : World) (hf : faultE n L = 0) (hm : m ≤ 255) (hp : p ≤ m) (hA : ME w A n L g) (hAt : Rd w At m (fun i => .int .i64 (t i)))
    (hgood : ∀ i, i < p → 0 ≤ t i ∧ t i < n) (hbad : p < m → t p < 0 ∨ n ≤ t p) :
    Calls Try.prog 44 #[.slice A n cA, .slice At m cAt] w (RowsOut w.heap.size 78 57 1 m p t L (fun i j => [.int .u8 (g i j)]) w) := by
  obtain ⟨hn, hl, -⟩ := faultE_ok hf
  have HB := Lib.hid hbad; clear hbad
  have HG := Lib.hid hgood; clear hgood
  have HL := Lib.hid hl; clear hl
  have HT := Lib.hid hA.top
  obtain ⟨SA, CA, hA1, hA2⟩ := hA
  have HF := Lib.hid hf; clear hf
  obtain ⟨i0, hi0, hz0, hz1, hz2⟩ := info_parts elemsInfo
  go_enter Try.func44, Try.ntmps44
  go_wp2_with fail
  refine (faultE_any A n cA L _ (by omega) (fun i hi => by have := HL.out i hi; omega) HT.out).mono ?_
  rintro e w1 ⟨rfl, rfl⟩
  have HF2 : faultE n L = 0 := HF.out
  rw [HF2]; clear HF2
  go_wp2_with (at_make; refine wpList_make_own _ rfl _ _ 64 rfl w.heap.size 78 i0 (.slice none 0 0) 1 Try.underlying64 hi0 hz0 hz1 .i64 .i64 _ m rfl rfl (by omega) (by rw [hz2]; omega) (by unfold maxLen; omega) (Nat.le_refl _) ?_)
  intro w2 hown2 hgr2
  have hb2 : Below w.heap.size w w2 := (Below.refl _ _).grown hgr2 (Nat.le_refl _) (by simp)
  clear hgr2 hi0 hz0 hz1 hz2
  go_wp2
  go_loopg [7, 9, 10, 24] m (fun gk v _ _ i wr => ∃ (k : Nat) (S : Nat → Option Addr) (C : Nat → Nat), k ≤ p ∧ gk = m - k ∧ i = .int .i64 k ∧ OwnQ wr w.heap.size 78 57 1 v k S C (fun i => L (t i).toNat) (fun i j => (fun i j => [.int .u8 (g i j)]) (t i).toNat j) ∧ Below w.heap.size w wr)
  case atStart => exact ⟨0, fun _ => none, fun _ => 0, Nat.zero_le _, rfl, rfl, ⟨hown2, fun i hi => absurd hi (by omega)⟩, hb2⟩
  case round =>
    obtain ⟨k, S, C, hk, rfl, rfl, hown, hbel⟩ := hrel
    have hsz := hbel.size
    by_cases hlt : k < p
    · obtain ⟨b, o, rfl, hb, hc⟩ := hAt k (by omega)
      have hc' : wr.cell? ⟨b, o + k, none⟩ = some (.int .i64 (t k)) := (hbel.cell hb).trans hc
      obtain ⟨hg0, hg1⟩ := HG.out k hlt
      obtain ⟨q, hq⟩ := Int.eq_ofNat_of_zero_le hg0
      rw [hq] at hc' hg1
      have hqn : q < n := by omega
      have hqt : (t k).toNat = q := by omega
      have HQ := Lib.hid hqt; clear hqt
      clear hg0 hg1 hq hc hAt
      obtain ⟨b2, o2, rfl, hb2, hc2⟩ := hA1 q hqn
      have hc2' : wr.cell? ⟨b2, o2 + q, none⟩ = some (.slice (SA q) (L q) (CA q)) := (hbel.cell hb2).trans hc2
      have hc2n : ∀ o, (wr.alloc o).cell? ⟨b2, o2 + q, none⟩ = some (.slice (SA q) (L q) (CA q)) := fun o => by rw [← hc2']; exact (((Below.refl wr.heap.size wr).alloc (Nat.le_refl _) o).cell (by have := hb2; simp; omega))
      have hrow := (hA2 q hqn).below hbel
      have hLq := HL.out q hqn
      have hqlt : (q : Int) < n := by omega
      clear hc2 hA2
      have hmk := run_make_row' (P := Try.prog) 78 57 (.int .u8 0) 1 Try.underlying78 elemInfo rfl .i64 .i64 (L q) (by omega) (by omega)
      have hkm : k < m := by omega
      have HLT := Lib.hid hlt; clear hlt
      go_wp2_with (refine wpList_copyAll rfl (.tmp 42) (.tmp 46) 78 78 rfl 57 1 wr.heap.size (L q) (L q) (CA q) (SA q) 57 (fun _ => (.int .u8 0)) (fun j => .int .u8 (g q j)) Try.underlying78 (elemSZ) rfl rfl (by rw [Nat.mul_one]; exact World.rowIs_made _ _ _ _) (by rw [Nat.mul_one]; exact hrow.below (((Below.refl _ _).alloc (Nat.le_refl _) _))) (fun _ _ => rfl) ?_)
      intro w3 hrow3 hgr3
      have hbel3 : Below wr.heap.size wr w3 := ((Below.refl _ _).alloc (Nat.le_refl _) _).grown hgr3 (by simp) (by intro k hk; cases hk; exact Nat.le_refl _)
      have hownB := (hown.kept hbel3).next (some ⟨wr.heap.size, 0, none⟩) (L q)
      have hown1' : Own w3 w.heap.size 57 1 (.slice (upd S k (some ⟨wr.heap.size, 0, none⟩) k) (L (t k).toNat) (upd C k (L q) k)) (L (t k).toNat) (fun j => (fun i j => [.int .u8 (g i j)]) (t k).toNat j) := by
        rw [upd_at, upd_at, HQ.out]; exact own_of_rowN (n := L q) (sz := 1) (f := fun j => .int .u8 (g q j)) (by rw [Nat.mul_one]; exact hrow3) (by rw [Nat.mul_one]; exact flat1 _ _) hsz (by unfold maxLen; omega)
      have hu : Hid ((#[Value.slice (some ⟨wr.heap.size, 0, none⟩) (L q) (L q)] : Array Value).toList = [.slice (upd S k (some ⟨wr.heap.size, 0, none⟩) k) (L (t k).toNat) (upd C k (L q) k)]) := by rw [upd_at, upd_at, HQ.out]; rfl
      have hbel3' := hbel.trans (hbel3.mono hsz)
      have hsz3 := hbel3'.size
      clear hown hbel3 hbel hc' hc2' hc2n hrow hrow3 hgr3 hmk
      go_wp2_with (at_builtin; refine wpList_push _ rfl (.tmp 48) (.tmp 50) 64 rfl w.heap.size 78 1 24 (.slice none 0 0) #[.slice (some ⟨wr.heap.size, 0, none⟩) (L q) (L q)] Try.underlying64 elemsInfo rfl (by decide) _ k _ rfl hownB.1 hsz3 _ rfl rfl hu.out rfl rfl (by omega) (by omega) ?_)
      intro v' w4 hown4 hbel4 hg4 _
      have hO := hownB.push (by decide) hown1' hown4 hg4
      have hbelF := hbel3'.trans hbel4
      clear hownB hown1' hown4 hg4 hbel4 hbel3'
      go_wp2
      go_roundg (m - (k + 1))
      case measure => omega
      case rel => exact ⟨k + 1, _, _, Nat.succ_le_of_lt HLT.out, rfl, by go_num, hO, hbelF⟩
    · have : k = p := by omega
      subst this
      by_cases hkm : k < m
      · obtain ⟨b, o, rfl, hb, hc⟩ := hAt k hkm
        have hc' : wr.cell? ⟨b, o + k, none⟩ = some (.int .i64 (t k)) := (hbel.cell hb).trans hc
        have hcon : RowsOut w.heap.size 78 57 1 m k t L (fun i j => [.int .u8 (g i j)]) w (.returned (.tuple #[.slice none 0 0, .int .i64 2])) wr := ⟨fun h => absurd h (by omega), fun _ => rfl, hbel⟩
        have htk : t k < 0 ∨ n ≤ t k := HB.out hkm
        clear hc hlt hown
        rcases htk with h0 | h0
        · go_wp2
          go_ret2
          exact hcon
        · have h1 : ¬ t k < 0 := by omega
          have h2 : ¬ t k < n := by omega
          go_wp2
          go_ret2
          exact hcon
      · have : k = m := by omega
        subst this
        go_wp2
        go_ret2
        exact ⟨fun _ => ⟨_, _, _, rfl, hown⟩, fun h => absurd h (by omega), hbel⟩


theorem rowsE_ok (A At : Option Addr) (n m cA cAt : Nat) (L : Nat → Nat) (g : Nat → Nat → Nat) (t : Nat → Nat) (w : World) (hf : faultE n L = 0) (hm : m ≤ 255) (hA : ME w A n L g) (hAt : Rd w At m (fun i => .int .i64 (t i : Nat))) (ht : ∀ i, i < m → t i < n) :
    Calls Try.prog 44 #[.slice A n cA, .slice At m cAt] w fun e w' => ∃ Av c, e = .returned (.tuple #[.slice Av m c, .int .i64 0]) ∧ ME w' Av m (fun i => L (t i)) (fun i j => g (t i) j) ∧ Below w.heap.size w w' := by
  refine (rowsE A At n m m cA cAt L g (fun i => (t i : Nat)) w hf hm (Nat.le_refl _) hA hAt (fun i hi => by have := ht i hi; omega) (fun h => absurd h (by omega))).mono ?_
  rintro e w' ⟨h1, _, h3⟩
  obtain ⟨v, S, C, he, hO⟩ := h1 rfl
  obtain ⟨Av, c, rfl, _, _, hM⟩ := OwnQ.rdm (g := fun i j => .int .u8 (g (t i) j)) hO
  exact ⟨Av, c, he, hM, h3⟩
end Go.Proofs.Ythodpgkelmalmaa
