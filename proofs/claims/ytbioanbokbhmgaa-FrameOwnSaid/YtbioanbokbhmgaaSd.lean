/- A shard in memory; lengths of blocks of any head that may be. Conditions: as the theorems have them. -/
import Derived.Test.YtbioanbokbhmgaaRefC
import Derived.Test.YtbioanbokbhmgaaPrsR
namespace Go.Proofs.Ytbioanbokbhmgaa
open Go.RowKit

theorem lenE_nat {h : Hd} (HE : checkE h = 0) : ∃ L : Nat, lenE h = L ∧ L ≤ 300000000 := by
  obtain ⟨⟨m1, m2, m3, m4, m5, m6⟩, _, k1, _⟩ := check_facts HE
  have hbl : ∀ j, blen h.K.toNat h.B.toNat h.size.toNat j + 4 ≤ 65540 := fun j => by have := blen_le (K := h.K.toNat) (B := h.B.toNat) (s := h.size.toNat) (j := j) (by omega); omega
  have h1 := sumN_le hbl (sizeN h.K h.M h.B h.size)
  have h2 : sizeN h.K h.M h.B h.size * 65540 ≤ 4096 * 65540 := Nat.mul_le_mul_right _ (sizeN_le _ _ _ _)
  unfold lenE
  rw [if_pos HE]
  exact ⟨_, rfl, by omega⟩
/-- A shard's cells, new. -/
theorem sd_new (w : World) (h : Hd) (v : Value) : HdAt (w.alloc (.cells #[.int .u8 h.s0, .int .u8 h.s1, .int .u8 h.s2, .int .u8 h.s3, .int .u8 h.s4, .int .u8 h.s5, .int .u8 h.s6, .int .u8 h.s7, .int .i64 h.K, .int .i64 h.M, .int .i64 h.B, .string h.key, .int .i64 h.size, .int .i64 h.idx, .int .i64 h.ep, .int .i64 h.ct, v] 46)) w.heap.size h ∧ (w.alloc (.cells #[.int .u8 h.s0, .int .u8 h.s1, .int .u8 h.s2, .int .u8 h.s3, .int .u8 h.s4, .int .u8 h.s5, .int .u8 h.s6, .int .u8 h.s7, .int .i64 h.K, .int .i64 h.M, .int .i64 h.B, .string h.key, .int .i64 h.size, .int .i64 h.idx, .int .i64 h.ep, .int .i64 h.ct, v] 46)).cell? ⟨w.heap.size, 16, none⟩ = some v := by
  constructor
  · refine ⟨?_, ?_, ?_, ?_, ?_, ?_, ?_, ?_, ?_, ?_, ?_, ?_, ?_, ?_, ?_, ?_⟩ <;> go_simp
  · go_simp
/-- What Encode's call leaves. -/
def EncPost (w : World) (h : Hd) (BL : List (List Nat)) (e : Ending) (w' : World) : Prop := ∃ o er l, e = .returned (.tuple #[o, .int .i64 er]) ∧ EncP h BL er l ∧ OwnB w' w.heap.size o l ∧ Below w.heap.size w w'
theorem lengths_int (K M B s : Int) (w : World) (h : MayS K M B) (h0 : 0 ≤ s) (hs : s ≤ 1048576) :
    Calls Try.prog 46 #[.agg #[.int .i64 K, .int .i64 M, .int .i64 B], .int .i64 s] w fun e w' =>
      e = .returned (.slice (some ⟨w.heap.size + 1, 0, none⟩) (nblk (K.toNat * B.toNat) s.toNat) (nblk (K.toNat * B.toNat) s.toNat)) ∧ w'.rowIs (w.heap.size + 1) 3 (nblk (K.toNat * B.toNat) s.toNat) (fun j => .int .i64 (blen K.toNat B.toNat s.toNat j)) ∧ Below w.heap.size w w' := by
  have hm := h
  obtain ⟨a1, a2, a3, a4, a5, a6⟩ := hm
  obtain ⟨K', rfl⟩ := Int.eq_ofNat_of_zero_le (show 0 ≤ K by omega)
  obtain ⟨M', rfl⟩ := Int.eq_ofNat_of_zero_le (show 0 ≤ M by omega)
  obtain ⟨B', rfl⟩ := Int.eq_ofNat_of_zero_le (show 0 ≤ B by omega)
  obtain ⟨s', rfl⟩ := Int.eq_ofNat_of_zero_le h0
  exact lengths_any K' M' B' s' w h (by omega)
end Go.Proofs.Ytbioanbokbhmgaa
