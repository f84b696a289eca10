/- Words for bytes that are shared by many texts. Conditions: none. -/
import Derived.Test.YtjaaldandgfkgaaMulE
namespace Go.Proofs.Ytjaaldandgfkgaa
open Go.RowKit

theorem byteInfo : (Try.prog.info? 5).map (fun i => (i.zero, i.size, i.bytes)) = some (some (.int .u8 0), 1, 1) := by kernel_rfl
theorem bytesInfo : (Try.prog.info? 43).map (fun i => (i.zero, i.size, i.bytes)) = some (some (.slice none 0 0), 1, 24) := by kernel_rfl
theorem mixed : Try.prog.follows .mixedOrders = true := by kernel_rfl

theorem Own.setOther {w : World} {B e sz n : Nat} {v : Value} {f : Nat → List Value} (h : Own w B e sz v n f) {a : Addr} (ha : v.ownBlock ≠ some a.block) (u : Value) : Own (w.setCell a u) B e sz v n f :=
  h.keptRow (r := some a.block) ⟨rfl, rfl, rfl, by simp, fun k _ hk => Below.heap_setCell _ _ _ _ (fun e => hk (by rw [e]))⟩ (.inr ha)
end Go.Proofs.Ytjaaldandgfkgaa
