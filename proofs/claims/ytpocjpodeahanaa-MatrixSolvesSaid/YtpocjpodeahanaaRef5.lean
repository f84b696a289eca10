/- The document's Inverse in every case, and that it is the program's. Conditions: lengths that memory bears. -/
import Derived.Test.YtpocjpodeahanaaRef4
import Derived.Test.YtpocjpodeahanaaInv
namespace Go.Proofs.Ytpocjpodeahanaa
open Go.RowKit

/-- A number brought below the field's size, as a number of the field. -/
def lowF (s : Nat) (hs : 2 ≤ s) (i : Int) : Fin s := ⟨lowN s i, by have := lowN_lt (s := (s : Int)) (by omega) i; omega⟩
theorem Top.below' {w w' : World} {A : Option Addr} {n : Nat} {L : Nat → Nat} (h : Top w A n L) (hb : Below w.heap.size w w') : Top w' A n L := by
  obtain ⟨S, C, h1⟩ := h
  exact ⟨S, C, h1.below hb⟩
set_option maxHeartbeats 400000 in
theorem rinv_bad (s : Nat) (A : Option Addr) (n c : Nat) (L : Nat → Nat) (w : World) (hn : n ≤ 9223372036854775807) (hL : ∀ i, i < n → L i ≤ 9223372036854775807) (hA : Top w A n L) (h : ¬ (faultE n L = 0 ∧ colsN n L = n)) :
    Calls Try.prog 58 #[.int .i64 s, .slice A n c] w fun e w' => e = .returned (.tuple #[.slice none 0 0, .int .i64 (if faultE n L = 0 then 31 else faultE n L)]) ∧ Below w.heap.size w w' := by
  have CA := Lib.hid (rfault_any A n c L w hn hL hA)
  have CC := Lib.hid (fun w1 (hd : Dr w w1) => rcolumns_any A n c L w1 (hA.below' (hd.below w.heap.size)))
  clear hL hA
  generalize faultE n L = fa at *
  generalize colsN n L = ca at *
  by_cases h1 : fa = 0
  · subst h1
    have h3 : ¬ ca = n := fun e => h ⟨rfl, e⟩
    have t1 : ((ca : Int) != (n : Int)) = true := by rw [bne_iff_ne]; omega
    clear h3 h
    go_enter Try.func58, Try.ntmps58
    go_wp2_with fail
    refine CA.out.mono ?_
    rintro e w1 ⟨rfl, hd1⟩
    go_wp2_with fail
    refine (CC.out w1 hd1).mono ?_
    rintro e w3 ⟨rfl, rfl⟩
    clear CA CC
    have hb := hd1.below w.heap.size
    clear hd1
    go_wp2
    go_ret2
    exact ⟨rfl, hb⟩
  · have HE : Hid ((if fa = 0 then (31 : Int) else fa) = fa) := if_neg h1
    have t1 : (fa != 0) = true := by simpa using h1
    have t2 : (fa == 0) = false := by simpa using h1
    clear h1 h
    rw [HE.out]
    go_enter Try.func58, Try.ntmps58
    go_wp2_with fail
    refine CA.out.mono ?_
    rintro e w1 ⟨rfl, hd1⟩
    have hb := hd1.below w.heap.size
    clear CA CC hd1
    go_wp2
    go_ret2
    exact ⟨rfl, hb⟩
theorem rinv_any {s : Nat} {F : Fd (Fin s)} (ok : FdOk s F) (A : Option Addr) (n c : Nat) (L : Nat → Nat) (G : Nat → Nat → Fin s) (w : World) (hn : n ≤ 9223372036854775807) (hL : ∀ i, i < n → L i ≤ 9223372036854775807) (hA : MI w A n L (fun i j => (G i j).val)) :
    Calls Try.prog 58 #[.int .i64 (s : Nat), .slice A n c] w fun e w' => ∃ (er : Int) (X : Nat → Nat → Fin s) (Av : Option Addr) (cv : Nat), e = .returned (.tuple #[.slice Av (if er = 0 then n else 0) cv, .int .i64 er]) ∧ InvR F n L G er X ∧ Below w.heap.size w w' ∧ MI w' Av (if er = 0 then n else 0) (fun _ => n) (fun i j => (X i j).val) := by
  by_cases h : faultE n L = 0 ∧ colsN n L = n
  · exact rinv_ok ok A n c L G w h.1 h.2 hA
  · refine (rinv_bad s A n c L w hn hL hA.top h).mono ?_
    rintro e w' ⟨he, hb⟩
    by_cases hf : faultE n L = 0
    · rw [if_pos hf] at he
      exact ⟨31, fun _ _ => F.z, none, 0, he, .inr (.inl ⟨hf, fun e => h ⟨hf, e⟩, rfl⟩), hb, RdM.zero _ _ _ _⟩
    · rw [if_neg hf] at he
      refine ⟨faultE n L, fun _ _ => F.z, none, 0, ?_, .inl ⟨hf, rfl⟩, hb, ?_⟩
      · rw [if_neg hf]; exact he
      · rw [if_neg hf]; exact RdM.zero _ _ _ _
/-- The program's answer is the document's. -/
theorem inv_same {α : Type} {F : Fd α} {n : Nat} {L : Nat → Nat} {G : Nat → Nat → α} {er er' : Int} {X X' : Nat → Nat → α} (h : InvP F n L G er X) (h' : InvR F n L G er' X') : er = er' ∧ (er = 0 → ∀ i, i < n → ∀ j, j < n → X i j = X' i j) := by
  have hp : (∃ G' p, F.RR n (n + n) n (F.aug n G) G' n p) → F.Free n n G := fun ⟨G', p, hr⟩ => Fd.free_aug.1 ((hr.full_iff (by omega)).1 rfl)
  have hq : (∃ R q, F.BS n n (n + n) n (F.aug n G) R q) → F.Free n n G := fun ⟨R, q, hb⟩ => Fd.free_aug.1 (hb.free (by omega))
  rcases h with ⟨a1, a2⟩ | ⟨a1, a2, a3⟩ | ⟨a1, a2, a3, a4⟩ | ⟨a1, a2, a3, G', p, hr, hx⟩
  · rcases h' with ⟨b1, b2⟩ | ⟨b1, _⟩ | ⟨b1, _⟩ | ⟨b1, _⟩
    · exact ⟨by rw [a2, b2], fun e => absurd (a2 ▸ e) a1⟩
    · exact absurd b1 a1
    · exact absurd b1 a1
    · exact absurd b1 a1
  · rcases h' with ⟨b1, b2⟩ | ⟨b1, b2, b3⟩ | ⟨b1, b2, _⟩ | ⟨b1, b2, _⟩
    · exact absurd a1 b1
    · exact ⟨by rw [a3, b3], fun e => by omega⟩
    · exact absurd b2 a2
    · exact absurd b2 a2
  · rcases h' with ⟨b1, b2⟩ | ⟨b1, b2, b3⟩ | ⟨b1, b2, b3, b4⟩ | ⟨b1, b2, b3, R, q, hb, _⟩
    · exact absurd a1 b1
    · exact absurd a2 b2
    · exact ⟨by rw [a4, b4], fun e => by omega⟩
    · exact absurd (hq ⟨R, q, hb⟩) a3
  · rcases h' with ⟨b1, b2⟩ | ⟨b1, b2, b3⟩ | ⟨b1, b2, b3, b4⟩ | ⟨b1, b2, b3, R, q, hb, hy⟩
    · exact absurd a1 b1
    · exact absurd a2 b2
    · exact absurd (hp ⟨G', p, hr⟩) b3
    · refine ⟨by rw [a3, b3], fun _ i hi j hj => ?_⟩
      obtain ⟨t, ht, hqt, hxt⟩ := hy i hi
      rw [hxt j hj, hx, Fd.row_eq hr (by omega) hb ht (n + j) (by omega), hqt]
theorem InvP.small {α : Type} {F : Fd α} {n : Nat} {L : Nat → Nat} {G : Nat → Nat → α} {er : Int} {X : Nat → Nat → α} (h : InvP F n L G er X) : (if er = 0 then n else 0) ≤ 255 ∧ (er = 0 → n ≤ 255) := by
  by_cases e : er = 0
  · rw [if_pos e]
    have hn : n ≤ 255 := by
      rcases h with ⟨a1, a2⟩ | ⟨a1, _⟩ | ⟨a1, _⟩ | ⟨a1, _⟩
      · exact absurd (a2 ▸ e) a1
      · exact (faultE_ok a1).1
      · exact (faultE_ok a1).1
      · exact (faultE_ok a1).1
    exact ⟨hn, fun _ => hn⟩
  · rw [if_neg e]; exact ⟨by omega, fun h => absurd h e⟩
end Go.Proofs.Ytpocjpodeahanaa
