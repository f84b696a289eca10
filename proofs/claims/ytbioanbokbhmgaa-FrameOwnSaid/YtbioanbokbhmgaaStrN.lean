/- Slices of bytes as strings. Conditions: bytes. -/
import Derived.Test.YtbioanbokbhmgaaMem2
import Derived.Laws.IdiomStrings
namespace Go.Proofs.Ytbioanbokbhmgaa
open Go.RowKit

/-- The string of n bytes. -/
def strN (n : Nat) (g : Nat → Nat) : ByteArray := ⟨((List.range n).map fun i => UInt8.ofNat (g i)).toArray⟩
theorem strN_congr {n : Nat} {g h : Nat → Nat} (e : ∀ i, i < n → g i = h i) : strN n g = strN n h := by
  unfold strN
  congr 2
  exact List.map_congr_left fun i hi => by rw [e i (List.mem_range.1 hi)]
theorem conv_str {P : Program} (w : World) (src dst e : TypeId) (A : Option Addr) (n cap : Nat) (g : Nat → Nat) (hs : P.underlying src = some (.slice e)) (he : P.underlying e = some (.int .u8)) (hd : P.underlying dst = some .string) (hg : ∀ i, i < n → g i < 256)
    (hA : Rd w A n fun i => .int .u8 (g i)) : (convert src dst (.slice A n cap)).run P w = .ok (.string (strN n g)) w := by
  rcases A with _ | a
  · have hn : n = 0 := by
      rcases Nat.eq_zero_or_pos n with h | h
      · exact h
      · obtain ⟨b, o, e1, _⟩ := hA 0 h; cases e1
    subst hn
    rw [run_convert_bytes_string w src dst e none 0 cap hs he hd]
    simp [Conv.bytesToString, strN]
    rfl
  · have h := run_convert_bytes_back (P := P) w src dst e a cap ((List.range n).map fun i => UInt8.ofNat (g i)) hs he hd (fun j hj => by
      have hj' : j < n := by simpa using hj
      obtain ⟨b, o, e1, _, hc⟩ := hA j hj'
      injection e1 with e1
      subst e1
      have hadd : (⟨b, o, none⟩ : Addr).add j = ⟨b, o + j, none⟩ := by unfold Addr.add; split <;> simp_all
      rw [hadd, hc]
      have := hg j hj'
      simp
      omega)
    simp only [List.length_map, List.length_range] at h
    exact h
end Go.Proofs.Ytbioanbokbhmgaa
