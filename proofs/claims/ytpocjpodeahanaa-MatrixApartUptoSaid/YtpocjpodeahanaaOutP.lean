/- Products of matrices, inverses on both sides, in plain. Conditions: none. -/
import Derived.Test.YtpocjpodeahanaaSolP
import Derived.Test.YtpocjpodeahanaaInv
import Derived.Test.YtpocjpodeahanaaDot
namespace Go.Proofs.Ytpocjpodeahanaa
namespace Fd
variable {α : Type} (F : Fd α)
/-- The product: m is how many numbers a row of A has. -/
def mm (m : Nat) (A B : Nat → Nat → α) (i j : Nat) : α := F.s m fun u => F.m (A i u) (B u j)
variable {F}
theorem mm_assoc (m p : Nat) (A B C : Nat → Nat → α) (i j : Nat) : F.mm p (F.mm m A B) C i j = F.mm m A (F.mm p B C) i j := by
  show F.s p (fun t => F.m (F.s m fun u => F.m (A i u) (B u t)) (C t j)) = F.s m fun u => F.m (A i u) (F.s p fun t => F.m (B u t) (C t j))
  have h1 : F.s p (fun t => F.m (F.s m fun u => F.m (A i u) (B u t)) (C t j)) = F.s p fun t => F.s m fun u => F.m (A i u) (F.m (B u t) (C t j)) := F.s_congr fun t _ => by
    rw [F.s_m']; exact F.s_congr fun u _ => F.m_assoc _ _ _
  rw [h1, F.s_swap]
  exact F.s_congr fun u _ => (F.s_m _ _ _).symm
theorem mm_congr {m : Nat} {A B A' B' : Nat → Nat → α} {i j : Nat} (h : ∀ u, u < m → A i u = A' i u) (k : ∀ u, u < m → B u j = B' u j) : F.mm m A B i j = F.mm m A' B' i j :=
  F.s_congr fun u hu => by rw [h u hu, k u hu]
theorem mm_id {m : Nat} (A : Nat → Nat → α) {i j : Nat} (hj : j < m) : F.mm m A F.idm i j = A i j := by
  unfold mm
  rw [F.s_one hj]
  · unfold idm; rw [if_pos rfl, F.m_u]
  · intro u _ hne
    unfold idm; rw [if_neg hne, F.m_z]
theorem id_mm {n : Nat} (A : Nat → Nat → α) {i j : Nat} (hi : i < n) : F.mm n F.idm A i j = A i j := by
  unfold mm
  rw [F.s_one hi]
  · unfold idm; rw [if_pos rfl, F.u_m]
  · intro u _ hne
    unfold idm; rw [if_neg (fun e => hne e.symm), F.z_m]
/-- What has an inverse behind it is free. -/
theorem free_of_right {n : Nat} {X G : Nat → Nat → α} (h : ∀ i j, i < n → j < n → F.mm n X G i j = F.idm i j) : F.Free n n X := fun c hc t ht => by
  have h1 : c t = F.s n fun i => F.m (c i) (F.idm i t) := by
    rw [F.s_one ht]
    · unfold idm; rw [if_pos rfl, F.m_u]
    · intro u _ hne
      unfold idm; rw [if_neg hne, F.m_z]
  have h2 : F.s n (fun i => F.m (c i) (F.idm i t)) = F.s n fun i => F.s n fun j => F.m (F.m (c i) (X i j)) (G j t) := F.s_congr fun i hi => by
    rw [← h i t hi ht]
    unfold mm
    rw [F.s_m]
    exact F.s_congr fun j _ => (F.m_assoc _ _ _).symm
  rw [h1, h2, F.s_swap]
  refine F.s_zero fun j hj => ?_
  rw [← F.s_m', hc j hj, F.z_m]
/-- A left inverse is the right one. -/
theorem inv_uniq {n : Nat} {Y X G : Nat → Nat → α} (h1 : ∀ i j, i < n → j < n → F.mm n Y X i j = F.idm i j) (h2 : ∀ i j, i < n → j < n → F.mm n X G i j = F.idm i j) : ∀ i j, i < n → j < n → Y i j = G i j := fun i j hi hj => by
  rw [← mm_id (F := F) (m := n) Y hj, ← id_mm (F := F) (n := n) G hi]
  rw [mm_congr (A := Y) (A' := Y) (B := F.idm) (B' := F.mm n X G) (fun _ _ => rfl) (fun u hu => (h2 u j hu hj).symm), ← mm_assoc]
  exact mm_congr (fun u hu => h1 i u hi hu) fun _ _ => rfl
end Fd
/-- A square matrix whose rows are free: what Inverse says of it. -/
theorem InvP.free {α : Type} {F : Fd α} {n : Nat} {L : Nat → Nat} {G : Nat → Nat → α} {er : Int} {X : Nat → Nat → α} (h : InvP F n L G er X) (hf : faultE n L = 0) (hc : colsN n L = n) (hG : F.Free n n G) :
    er = 0 ∧ (∀ i j, i < n → j < n → F.mm n X G i j = F.idm i j) ∧ ∀ i j, i < n → j < n → F.mm n G X i j = F.idm i j := by
  rcases h with ⟨a1, _⟩ | ⟨_, a2, _⟩ | ⟨_, _, a3, _⟩ | ⟨_, _, a3, G', p, hR, hX⟩
  · exact absurd hf a1
  · exact absurd hc a2
  · exact absurd hG a3
  · refine ⟨a3, fun i j hi hj => ?_, fun i j hi hj => ?_⟩
    · rw [← Fd.inv_row hR hi j hj]
      exact F.s_congr fun t _ => by rw [hX]
    · rw [← Fd.inv_right hR hi j hj]
      exact F.s_congr fun t _ => by rw [hX]
theorem InvP.bound {α : Type} {F : Fd α} {n : Nat} {L : Nat → Nat} {G : Nat → Nat → α} {er : Int} {X : Nat → Nat → α} (h : InvP F n L G er X) (hf : faultE n L = 0) (hc : colsN n L = n) (hG : ¬ F.Free n n G) : er = 32 := by
  rcases h with ⟨a1, _⟩ | ⟨_, a2, _⟩ | ⟨_, _, _, a4⟩ | ⟨_, _, a3, G', p, hR, hX⟩
  · exact absurd hf a1
  · exact absurd hc a2
  · exact a4
  · exact absurd (Fd.free_aug.1 ((hR.full_iff (by omega)).1 rfl)) hG
/-- Solve, of a square matrix whose rows are free: the matrix times the answer is the list. -/
theorem SolP.free {α : Type} {F : Fd α} {n : Nat} {L : Nat → Nat} {G : Nat → Nat → α} {v : Nat → α} {er : Int} {x : Nat → α} (h : SolP F n L n G v er x) (hf : faultE n L = 0) (hc : colsN n L = n) (hG : F.Free n n G)
    {X : Nat → Nat → α} (hl : ∀ i j, i < n → j < n → F.mm n X G i j = F.idm i j) (hr : ∀ i j, i < n → j < n → F.mm n G X i j = F.idm i j) :
    er = 0 ∧ ∀ i, i < n → (F.s n fun u => F.m (G i u) (x u)) = v i := by
  rcases h with ⟨a1, _⟩ | ⟨_, a2, _⟩ | ⟨_, _, a3, _⟩ | ⟨_, _, a3, N, r, hN, hx⟩
  · exact absurd hf a1
  · exact absurd ⟨hc, rfl⟩ a2
  · exact absurd hG a3
  · refine ⟨a3, fun i hi => ?_⟩
    have h1 : (F.s n fun u => F.m (G i u) (x u)) = F.mm n G (F.mm n X fun t _ => v t) i 0 := F.s_congr fun u hu => by
      rw [hx u, Fd.solve_gen hu (c := X u) (fun j hj => hl u j hu hj) hN]
      rfl
    rw [h1, ← Fd.mm_assoc, Fd.mm_congr (A' := F.idm) (B' := fun t _ => v t) (fun u hu => hr i u hi hu) (fun _ _ => rfl), Fd.id_mm _ hi]
theorem SolP.bound {α : Type} {F : Fd α} {n : Nat} {L : Nat → Nat} {G : Nat → Nat → α} {v : Nat → α} {er : Int} {x : Nat → α} (h : SolP F n L n G v er x) (hf : faultE n L = 0) (hc : colsN n L = n) (hG : ¬ F.Free n n G) : er = 32 := by
  rcases h with ⟨a1, _⟩ | ⟨_, a2, _⟩ | ⟨_, _, _, a4⟩ | ⟨_, _, a3, N, r, hN, hx⟩
  · exact absurd hf a1
  · exact absurd ⟨hc, rfl⟩ a2
  · exact a4
  · exact absurd (Fd.free_bsd.1 ((hN.full_iff (by omega)).1 rfl)) hG
/-- The three fields. -/
inductive Fld : (s : Nat) → Fd (Fin s) → Prop
  | e : Fld 256 gE
  | b : Fld 2 gB
  | f : Fld 4 gF
theorem Fld.ok {s : Nat} {F : Fd (Fin s)} (h : Fld s F) : FdOk s F := by
  cases h
  · exact okE
  · exact okB
  · exact okF
theorem dot_mm {s : Nat} {F : Fd (Fin s)} (ok : FdOk s F) (A B : Nat → Nat → Fin s) (i j : Nat) : ∀ m, dot s (fun u => (A i u).val) (fun u => (B u j).val) m = (F.mm m A B i j).val
  | 0 => ok.zero.symm
  | m + 1 => by
    show dot s _ _ m ^^^ mulR s _ _ = (F.a (F.mm m A B i j) (F.m (A i m) (B m j))).val
    rw [dot_mm ok A B i j m, ok.add, ok.mul]
theorem fault_const {n l : Nat} (hn : n ≤ 255) (hl : l ≤ 255) : faultE n (fun _ => l) = 0 := fault_none hn (fun _ _ => hl) fun _ _ => rfl
end Go.Proofs.Ytpocjpodeahanaa
