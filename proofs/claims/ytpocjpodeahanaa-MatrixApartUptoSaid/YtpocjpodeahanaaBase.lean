/- Walks of the law's own helpers: sizes, numbers, lists, rows; and of the document's zeros and Identity. Conditions: numbers below the field's size, lengths within what the form reads. -/
import Derived.Test.YtpocjpodeahanaaMem2
namespace Go.Proofs.Ytpocjpodeahanaa
open Go.RowKit

theorem intInfo : (Try.prog.info? 3).map (fun i => (i.zero, i.size, i.bytes)) = some (some (.int .i64 0), 1, 8) := by kernel_rfl
theorem intsInfo : (Try.prog.info? 23).map (fun i => (i.zero, i.size, i.bytes)) = some (some (.slice none 0 0), 1, 24) := by kernel_rfl
theorem elemInfo : (Try.prog.info? 34).map (fun i => (i.zero, i.size, i.bytes)) = some (some (.int .u8 0), 1, 1) := by kernel_rfl
theorem elemsInfo : (Try.prog.info? 62).map (fun i => (i.zero, i.size, i.bytes)) = some (some (.slice none 0 0), 1, 24) := by kernel_rfl
theorem bitInfo : (Try.prog.info? 40).map (fun i => (i.zero, i.size, i.bytes)) = some (some (.bool false), 1, 1) := by kernel_rfl
theorem bitsInfo : (Try.prog.info? 65).map (fun i => (i.zero, i.size, i.bytes)) = some (some (.slice none 0 0), 1, 24) := by kernel_rfl
theorem fourInfo : (Try.prog.info? 47).map (fun i => (i.zero, i.size, i.bytes)) = some (some (.agg #[.bool false, .bool false]), 2, 2) := by kernel_rfl
theorem foursInfo : (Try.prog.info? 68).map (fun i => (i.zero, i.size, i.bytes)) = some (some (.slice none 0 0), 1, 24) := by kernel_rfl

theorem ret_int {k : IntKind} {a b : Int} (h : a = b) : Ending.returned (.int k a) = .returned (.int k b) := by rw [h]
theorem ret_bool {a b : Bool} (h : a = b) : Ending.returned (.bool a) = .returned (.bool b) := by rw [h]

/-- The size of the field that a number means. -/
def fsz (f : Int) : Int := if (wrap64 (f.tmod 3 + 3)).tmod 3 == 0 then 256 else if (wrap64 (f.tmod 3 + 3)).tmod 3 == 1 then 2 else 4
theorem fsz_cases (f : Int) : fsz f = 256 ∨ fsz f = 2 ∨ fsz f = 4 := by unfold fsz; split <;> (try split) <;> simp
theorem size_any (f s : Int) (hs : fsz f = s) (w : World) :
    Calls Try.prog 15 #[.int .i64 f] w fun e w' => e = .returned (.int .i64 s) ∧ w = w' := by
  have HS := Lib.hid hs; clear hs
  go_enter Try.func15, Try.ntmps15
  go_wp2
  all_goals go_ret
  all_goals refine ⟨ret_int ?_, rfl⟩
  all_goals rw [← HS.out]; unfold fsz
  · rw [if_pos (by assumption)]
  · rw [if_neg (by simp_all), if_pos (by assumption)]
  · rw [if_neg (by simp_all), if_neg (by simp_all)]

/-- A number brought below the field's size. -/
def lowN (s n : Int) : Nat := (n % s).toNat
theorem lowN_lt {s : Int} (hs : 2 ≤ s) (n : Int) : (lowN s n : Int) < s := by
  unfold lowN
  have := Int.emod_nonneg n (show s ≠ 0 by omega)
  have := Int.emod_lt_of_pos n (show 0 < s by omega)
  omega
theorem low_eq (s n : Int) (hs : 2 ≤ s) (hs' : s ≤ 256) : (wrap64 (n.tmod s + s)).tmod s = (lowN s n : Int) := by
  have h4 := Int.emod_nonneg n (show s ≠ 0 by omega)
  have h5 := Int.emod_lt_of_pos n (show 0 < s by omega)
  have hab : (s.natAbs : Int) = s := by omega
  have h1 : n.tmod s = n % s ∨ n.tmod s = n % s - s := by
    rw [Int.tmod_eq_emod]
    split
    · left; omega
    · right; omega
  have hw : wrap64 (n.tmod s + s) = n.tmod s + s := IntWalk.wrap64_in _ ⟨by omega, by omega⟩
  rw [hw, Int.tmod_eq_emod_of_nonneg (by omega)]
  unfold lowN
  rcases h1 with h1 | h1 <;> rw [h1]
  · rw [Int.add_emod_right, Int.emod_emod_of_dvd n (Int.dvd_refl s)]; omega
  · rw [show n % s - s + s = n % s by omega, Int.emod_emod_of_dvd n (Int.dvd_refl s)]; omega
theorem low_any (s n : Int) (w : World) (hs : 2 ≤ s) (hs' : s ≤ 256) :
    Calls Try.prog 16 #[.int .i64 s, .int .i64 n] w fun e w' => e = .returned (.int .i64 (lowN s n)) ∧ w = w' := by
  go_enter Try.func16, Try.ntmps16
  go_wp2
  go_ret
  exact ⟨ret_int (low_eq s n hs hs'), rfl⟩

/-- list: numbers brought below the field's size, as a new list. -/
theorem list_any (s : Int) (A : Option Addr) (n c : Nat) (f : Nat → Int) (w : World) (hs : 2 ≤ s) (hs' : s ≤ 256) (hn : n * 8 ≤ 140737488351232) (hA : Rd w A n fun i => .int .i64 (f i)) :
    Calls Try.prog 35 #[.int .i64 s, .slice A n c] w fun e w' => ∃ v, e = .returned v ∧ Own w' w.heap.size 3 1 v n (fun i => [.int .i64 (lowN s (f i))]) ∧ Below w.heap.size w w' := by
  go_enter Try.func35, Try.ntmps35
  go_wp2
  go_loopg [5, 6] n (fun g v i wr => ∃ k : Nat, k ≤ n ∧ g = n - k ∧ i = .int .i64 k ∧ Own wr w.heap.size 3 1 v k (fun i => [.int .i64 (lowN s (f i))]) ∧ Below w.heap.size w wr)
  case atStart => exact ⟨0, Nat.zero_le _, rfl, rfl, Own.nil _ _ _ _ _, Below.refl _ _⟩
  case round =>
    obtain ⟨k, hk, rfl, rfl, hown, hbel⟩ := hrel
    have hsz := hbel.size
    by_cases hlt : k < n
    · obtain ⟨b, o, rfl, hb, hc⟩ := hA k hlt
      have hc' : wr.cell? ⟨b, o + k, none⟩ = some (.int .i64 (f k)) := (hbel.cell hb).trans hc
      go_wp2_with (first
        | (go_at_call 16; (with_reducible refine (low_any _ _ _ (by omega) (by omega)).mono ?_); rintro e w1 ⟨rfl, rfl⟩)
        | (at_builtin; refine wpList_push _ rfl (.tmp 13) (.tmp 20) 23 rfl w.heap.size 3 1 8 (.int .i64 0) #[.int .i64 (lowN s (f k))] Try.underlying23 intInfo rfl (by decide) _ k _ rfl hown hsz _ rfl rfl rfl rfl rfl (by omega) (by omega) ?_))
      · intro v' w1 hown' hbel' _ _
        have hbel2 : Below w.heap.size w w1 := hbel.trans hbel'
        clear hown hbel hc hc' hbel'
        go_wp2
        go_roundg (n - (k + 1))
        case measure => omega
        case rel => exact ⟨k + 1, by omega, rfl, by go_num, hown', hbel2⟩
    · have : k = n := by omega
      subst this
      go_wp2
      go_ret
      exact ⟨_, rfl, hown, hbel⟩

/-- rows: a matrix likewise. -/
theorem rows_any (s : Int) (A : Option Addr) (n c : Nat) (L : Nat → Nat) (f : Nat → Nat → Int) (w : World) (hs : 2 ≤ s) (hs' : s ≤ 256) (hn : n * 24 ≤ 140737488351232) (hL : ∀ i, i < n → L i * 8 ≤ 140737488351232)
    (hA : RdM w A n L fun i j => .int .i64 (f i j)) :
    Calls Try.prog 27 #[.int .i64 s, .slice A n c] w fun e w' => ∃ v S C, e = .returned v ∧ OwnM w' w.heap.size 23 3 v n S C L (fun i j => .int .i64 (lowN s (f i j))) ∧ Below w.heap.size w w' := by
  obtain ⟨SA, CA, hA1, hA2⟩ := hA
  go_enter Try.func27, Try.ntmps27
  go_wp2
  go_loopg [5, 6] n (fun g v i wr => ∃ (k : Nat) (S : Nat → Option Addr) (C : Nat → Nat), k ≤ n ∧ g = n - k ∧ i = .int .i64 k ∧ OwnM wr w.heap.size 23 3 v k S C L (fun i j => .int .i64 (lowN s (f i j))) ∧ Below w.heap.size w wr)
  case atStart => exact ⟨0, fun _ => none, fun _ => 0, Nat.zero_le _, rfl, rfl, OwnM.nil _ _ _ _ _ _ _ _, Below.refl _ _⟩
  case round =>
    obtain ⟨k, S, C, hk, rfl, rfl, hown, hbel⟩ := hrel
    have hsz := hbel.size
    by_cases hlt : k < n
    · obtain ⟨b, o, rfl, hb, hc⟩ := hA1 k hlt
      have hc' : wr.cell? ⟨b, o + k, none⟩ = some (.slice (SA k) (L k) (CA k)) := (hbel.cell hb).trans hc
      have hrow : Rd wr (SA k) (L k) (fun j => .int .i64 (f k j)) := (hA2 k hlt).below hbel
      have hLk := hL k hlt
      clear hL hc
      go_wp2_with fail
      refine (list_any _ _ _ _ _ _ hs hs' hLk hrow).mono ?_
      rintro e w1 ⟨v1, rfl, hown1, hbel1⟩
      obtain ⟨A1, c1, rfl, _, _, _, _⟩ := hown1.rd
      have hownB := (hown.kept hbel1).next A1 c1
      have hown1' : Own w1 w.heap.size 3 1 (.slice (upd S k A1 k) (L k) (upd C k c1 k)) (L k) (fun j => [.int .i64 (lowN s (f k j))]) := by
        rw [upd_at, upd_at]; exact hown1.mono hsz
      have hu : Hid ((#[Value.slice A1 (L k) c1] : Array Value).toList = [.slice (upd S k A1 k) (L k) (upd C k c1 k)]) := by rw [upd_at, upd_at]; rfl
      have hbel1' := hbel.trans (hbel1.mono hsz)
      have hsz1 := hbel1'.size
      clear hown hown1 hbel1 hbel hc' hrow
      go_wp2_with (at_builtin; refine wpList_push _ rfl (.tmp 13) (.tmp 20) 22 rfl w.heap.size 23 1 24 (.slice none 0 0) #[.slice A1 (L k) c1] Try.underlying22 intsInfo rfl (by decide) _ k _ rfl hownB.1 hsz1 _ rfl rfl hu.out rfl rfl (by omega) (by omega) ?_)
      · intro v' w2 hown2 hbel2 hg2 _
        have hO := hownB.push (by decide) hown1' hown2 hg2
        have hbelF := hbel1'.trans hbel2
        clear hownB hown1' hown2 hg2 hbel2 hbel1'
        go_wp2
        go_roundg (n - (k + 1))
        case measure => omega
        case rel => exact ⟨k + 1, _, _, by omega, rfl, by go_num, hO, hbelF⟩
    · have : k = n := by omega
      subst this
      go_wp2
      go_ret
      exact ⟨_, _, _, rfl, hown, hbel⟩
end Go.Proofs.Ytpocjpodeahanaa
