/- one: the walks. Conditions: matrices that memory bears. -/
import Derived.Test.YthodpgkelmalmaaTwE
namespace Go.Proofs.Ythodpgkelmalmaa
open Go.RowKit

/-- What 'one' says: a one, if there is a number that is not zero; else nothing. -/
def OneIs {α : Type} (F : Fd α) (n C : Nat) (G : Nat → Nat → α) (y : α) (b : Bool) : Prop :=
  (b = true ∧ y = F.u ∧ ∃ i j, i < n ∧ j < C ∧ G i j ≠ F.z) ∨ (b = false ∧ y = F.z ∧ ∀ i j, i < n → j < C → G i j = F.z)
set_option maxRecDepth 20000 in
set_option maxHeartbeats 1000000 in
theorem oneE_any (A : Option Addr) (n c C : Nat) (G : Nat → Nat → Fin 256) (w : World) (hn : n ≤ 1000000) (hC : C ≤ 1000000) (hA : ME w A n (fun _ => C) (fun i j => (G i j).val)) :
    Calls Try.prog 68 #[.slice A n c] w fun e w' => ∃ y b, e = .returned (.tuple #[.int .u8 ((y).val : Int), .bool b]) ∧ OneIs gE n C G y b ∧ Below w.heap.size w w' := by
  obtain ⟨SA, KA, hA1, hA2⟩ := hA
  have HU : Hid (∀ x : Fin 256, x ≠ gE.z → gE.m x (gE.v x) = gE.u) := fun x hx => gE.m_v x hx
  go_enter Try.func68, Try.ntmps68
  go_wp2
  go_loopg [13] n (fun gk i wr => wr = w ∧ ∃ k : Nat, k ≤ n ∧ gk = n - k ∧ i = .int .i64 k ∧ ∀ i j, i < k → j < C → G i j = gE.z)
  case atStart => exact ⟨rfl, 0, Nat.zero_le _, rfl, rfl, fun i j hi => absurd hi (by omega)⟩
  case round =>
    obtain ⟨rfl, k, hk, rfl, rfl, hz⟩ := hrel
    have HZ := Lib.hid hz; clear hz
    obtain ⟨wo, rfl⟩ : ∃ wo : World, wo = wr := ⟨_, rfl⟩
    by_cases hlt : k < n
    · obtain ⟨b1, o1, rfl, hb1, hx1⟩ := hA1 k hlt
      have hy1 : wo.cell? ⟨b1, o1 + k, none⟩ = some (.slice (SA k) C (KA k)) := hx1
      have hr := hA2 k hlt
      have HA1 := Lib.hid hA1; have HA2 := Lib.hid hA2
      clear hx1 hA1 hA2
      generalize SA k = Ak at *
      go_wp2
      go_loopg [19] C (fun gk i w2 => w2 = wo ∧ ∃ j : Nat, j ≤ C ∧ gk = C - j ∧ i = .int .i64 j ∧ ∀ j', j' < j → G k j' = gE.z)
      case atStart => exact ⟨rfl, 0, Nat.zero_le _, rfl, rfl, fun j hj => absurd hj (by omega)⟩
      case round =>
        obtain ⟨rfl, j, hj, rfl, rfl, hz⟩ := hrel
        have HZ2 := Lib.hid hz; clear hz
        by_cases hlj : j < C
        · obtain ⟨b3, o3, rfl, hb3, hx3⟩ := hr j hlj
          have hy3 : wr.cell? ⟨b3, o3 + j, none⟩ = some (.int .u8 ((G k j).val : Int)) := hx3
          clear hx3 hy1
          by_cases hx : G k j = gE.z
          · have t1 := zG_true hx
            have HX := Lib.hid hx; clear hx
            go_wp2_with (first
              | (go_at_call 79; (with_reducible refine (iG_any _ _).mono ?_); rintro e w4 ⟨rfl, rfl⟩)
              | (go_at_call 98; (with_reducible refine (zG_any _ _).mono ?_); rintro e w4 ⟨rfl, rfl⟩))
            go_roundg (C - (j + 1))
            case measure => omega
            case rel => exact ⟨rfl, j + 1, by omega, rfl, by go_num, fun j' h => by
              by_cases e : j' = j
              · rw [e]; exact HX.out
              · exact HZ2.out j' (by omega)⟩
          · have t1 := zG_false hx
            have HX := Lib.hid hx; clear hx
            go_wp2_with (first
              | (go_at_call 79; (with_reducible refine (iG_any _ _).mono ?_); rintro e w4 ⟨rfl, rfl⟩)
              | (go_at_call 98; (with_reducible refine (zG_any _ _).mono ?_); rintro e w4 ⟨rfl, rfl⟩)
              | (go_at_call 63; (with_reducible refine (tG_any _ _ _).mono ?_); rintro e w4 ⟨rfl, rfl⟩))
            go_ret2
            exact ⟨gE.m (G k j) (gE.v (G k j)), true, rfl, .inl ⟨rfl, HU.out _ HX.out, k, j, hlt, hlj, HX.out⟩, Below.refl _ _⟩
        · have : j = C := by omega
          subst this
          go_wp2
          go_roundg (n - (k + 1))
          case measure => omega
          case rel => exact ⟨rfl, k + 1, by omega, rfl, by go_num, fun i j' hi hj' => by
            by_cases e : i = k
            · rw [e]; exact HZ2.out j' hj'
            · exact HZ.out i j' (by omega) hj'⟩
    · have : k = n := by omega
      subst this
      go_wp2
      go_ret2
      exact ⟨gE.z, false, rfl, .inr ⟨rfl, rfl, HZ.out⟩, Below.refl _ _⟩
end Go.Proofs.Ythodpgkelmalmaa
