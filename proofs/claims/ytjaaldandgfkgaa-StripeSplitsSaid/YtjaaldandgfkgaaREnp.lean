/- Plain words of layer 4: codes that may be; what Encode says. Conditions: none. -/
import Derived.Test.YtjaaldandgfkgaaBy
namespace Go.Proofs.Ytjaaldandgfkgaa
open Go.RowKit

/-- Which numbers make a code. -/
def may (K M : Int) : Prop := 1 ≤ M ∧ M ≤ K ∧ K ≤ 254 ∧ M ≤ 255 - K
/-- Are all lengths x? -/
def evB (n : Nat) (L : Nat → Nat) (x : Nat) : Bool := (List.range n).all fun i => L i == x
theorem evB_iff {n x : Nat} {L : Nat → Nat} : evB n L x = true ↔ ∀ i, i < n → L i = x := by
  unfold evB
  rw [List.all_eq_true]
  exact ⟨fun h i hi => by simpa using h i (List.mem_range.2 hi), fun h i hi => by simpa using h i (List.mem_range.1 hi)⟩
theorem ret_bool {a b : Bool} (h : a = b) : Ending.returned (.bool a) = .returned (.bool b) := by rw [h]
theorem ShP_first {k n i : Nat} {o : Nat → Fin 256} (hk : k ≤ n) (hn : n ≤ 256) (hi : i < n) (h : gE.ShP el k (el i) o) : ∀ j, j < k → o j = gE.cM el k i j :=
  Fd.shP_cM (fun a b hab hb => el_ne hab (by omega)) h
/-- What Encode says: error, rows. -/
def EncP (k nr : Nat) (L : Nat → Nat) (er : Int) : Prop :=
  (nr ≠ k ∧ er = 40) ∨ (nr = k ∧ ¬ (∀ i, i < k → L i = L 0) ∧ er = 41) ∨ (nr = k ∧ (∀ i, i < k → L i = L 0) ∧ er = 0)
theorem EncP.uniq {k nr : Nat} {L : Nat → Nat} {er er' : Int} (h : EncP k nr L er) (h' : EncP k nr L er') : er = er' := by
  rcases h with ⟨a, b⟩ | ⟨a, b, c⟩ | ⟨a, b, c⟩ <;> rcases h' with ⟨a', b'⟩ | ⟨a', b', c'⟩ | ⟨a', b', c'⟩
  · rw [b, b']
  · exact absurd a' a
  · exact absurd a' a
  · exact absurd a a'
  · rw [c, c']
  · exact absurd b' b
  · exact absurd a a'
  · exact absurd b b'
  · rw [c, c']
/-- A byte of the word. -/
def wrd (k : Nat) (g : Nat → Nat → Nat) (i c : Nat) : Nat := (gE.s k (fun t => gE.m (gE.cM el k i t) (el (g t c)))).val
theorem wrd_lt {k : Nat} {g : Nat → Nat → Nat} {i c : Nat} : wrd k g i c < 256 := (gE.s k _).isLt
end Go.Proofs.Ytjaaldandgfkgaa
