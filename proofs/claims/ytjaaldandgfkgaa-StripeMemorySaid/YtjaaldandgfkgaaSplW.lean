/- Heads and shards of Split: bounds. Conditions: as the theorems have them. -/
import Derived.Test.YtjaaldandgfkgaaSplP
import Derived.Test.YtjaaldandgfkgaaSsh
namespace Go.Proofs.Ytjaaldandgfkgaa
open Go.RowKit

theorem i64_wf {n : Int} (h0 : -9223372036854775808 ≤ n) (h1 : n ≤ 9223372036854775807) : (Lit.int .i64 n).wf = true := by simp [Lit.wf, IntKind.min, IntKind.max, IntKind.signed, IntKind.bits]; omega
theorem hdw_spl {h : Hd} (H : HdW h) (n i : Nat) (hn : n ≤ 140737488351232) (hi : i ≤ 1000000) : HdW { h with size := (n : Int), idx := (i : Int) } := by
  obtain ⟨w0, w1, w2, w3, w4, w5, w6, w7, w8, w9, w10, w11, w12, w13, w14, w15⟩ := H
  exact ⟨w0, w1, w2, w3, w4, w5, w6, w7, w8, w9, w10, i64_wf (n := (n : Int)) (by omega) (by omega), i64_wf (n := (i : Int)) (by omega) (by omega), w13, w14, w15⟩
theorem spl_lt (K B : Nat) (l : List Nat) (i : Nat) : ∀ y ∈ spL K B l i, ∀ x ∈ y, x < 256 := fun y hy => by
  unfold spL spT at hy
  obtain ⟨j, _, rfl⟩ := List.mem_map.1 hy
  exact spB_lt i j
theorem spl_len {h : Hd} (l : List Nat) (e : checkE h = 0) (hs : h.size = (l.length : Int)) (i : Nat) : (spL h.K.toNat h.B.toNat l i).length ≤ 4096 := by
  unfold spL
  rw [spT_length]
  obtain ⟨_, _, _, z, _⟩ := check_facts e
  have := sizeN_le h.K h.M h.B h.size
  unfold sizeN at this
  rw [if_pos z, hs] at this
  exact this
end Go.Proofs.Ytjaaldandgfkgaa
