/- ParseHead, Spoilt, Parse of the program: the walks. Conditions: bytes. -/
import Derived.Test.YtbioanbokbhmgaaPar1
import Derived.Test.YtbioanbokbhmgaaRw16
namespace Go.Proofs.Ytbioanbokbhmgaa
open Go.RowKit

set_option maxRecDepth 100000 in
set_option maxHeartbeats 2000000 in
theorem ph_any (HOP : OpnAll) (A : Option Addr) (c : Nat) (b : List Nat) (w : World) (hx : ∀ x ∈ b, x < 256) (hbl : b.length ≤ 140737488351232) (hbc : b.length ≤ c) (hc : c ≤ maxLen) (hA : RL w A b) : Calls Try.prog 30 #[.slice A b.length c] w (RphPost w b) := by
  have hbA := Lib.hid ((Below.refl w.heap.size w).alloc (Nat.le_refl _) (.cells #[.int .u8 0, .int .u8 0, .int .u8 0, .int .u8 0, .int .u8 0, .int .u8 0, .int .u8 0, .int .u8 0, .int .i64 0, .int .i64 0, .int .i64 0, .string ⟨#[]⟩, .int .i64 0, .int .i64 0, .int .i64 0, .int .i64 0] 28))
  have HO := Lib.hid (HOP A c b (w.alloc (.cells #[.int .u8 0, .int .u8 0, .int .u8 0, .int .u8 0, .int .u8 0, .int .u8 0, .int .u8 0, .int .u8 0, .int .i64 0, .int .i64 0, .int .i64 0, .string ⟨#[]⟩, .int .i64 0, .int .i64 0, .int .i64 0, .int .i64 0] 28)) hx hbl hbc hc (hA.below hbA.out))
  clear hx hA
  go_enter Try.func30, Try.ntmps30
  go_wp2_with fail
  refine HO.out.mono ?_
  rintro e w1 ⟨rfl, hb1⟩
  have HW := Lib.hid (hbA.out.trans (hb1.mono hbA.out.size))
  have hz : w1.heap[w.heap.size]? = some (.cells #[.int .u8 0, .int .u8 0, .int .u8 0, .int .u8 0, .int .u8 0, .int .u8 0, .int .u8 0, .int .u8 0, .int .i64 0, .int .i64 0, .int .i64 0, .string ⟨#[]⟩, .int .i64 0, .int .i64 0, .int .i64 0, .int .i64 0] 28 (0, 0)) := by
    rw [hb1.block w.heap.size (by simp)]
    exact heap_alloc_new w _
  obtain ⟨H, hH⟩ : ∃ H, H = rdH b := ⟨_, rfl⟩
  obtain ⟨er, her⟩ : ∃ er, er = headE b := ⟨_, rfl⟩
  rw [← hH, ← her]
  have HH := Lib.hid hH
  have HER := Lib.hid her
  have HZA := Lib.hid (show (w1.alloc (.cells #[.int .u8 H.s0, .int .u8 H.s1, .int .u8 H.s2, .int .u8 H.s3, .int .u8 H.s4, .int .u8 H.s5, .int .u8 H.s6, .int .u8 H.s7, .int .i64 H.K, .int .i64 H.M, .int .i64 H.B, .string H.key, .int .i64 H.size, .int .i64 H.idx, .int .i64 H.ep, .int .i64 H.ct] 28)).heap[w.heap.size]? = some (.cells #[.int .u8 0, .int .u8 0, .int .u8 0, .int .u8 0, .int .u8 0, .int .u8 0, .int .u8 0, .int .u8 0, .int .i64 0, .int .i64 0, .int .i64 0, .string ⟨#[]⟩, .int .i64 0, .int .i64 0, .int .i64 0, .int .i64 0] 28 (0, 0)) from (((Below.refl w1.heap.size w1).alloc (Nat.le_refl _) _).block _ (Array.getElem?_eq_some_iff.1 hz).1).trans hz)
  have hlt : w.heap.size < w1.heap.size := (Array.getElem?_eq_some_iff.1 hz).1
  clear hH her hb1 hz HO hbA
  unfold HdV
  go_wp2_with (first | (refine wpList_storeNewH rfl (.tmp 4) (.tmp 10) rfl #[.int .u8 H.s0, .int .u8 H.s1, .int .u8 H.s2, .int .u8 H.s3, .int .u8 H.s4, .int .u8 H.s5, .int .u8 H.s6, .int .u8 H.s7, .int .i64 H.K, .int .i64 H.M, .int .i64 H.B, .string H.key, .int .i64 H.size, .int .i64 H.idx, .int .i64 H.ep, .int .i64 H.ct] rfl rfl rfl rfl rfl ?_) | (refine wpList_loadH rfl (.tmp 4) rfl w1.heap.size rfl #[.int .u8 H.s0, .int .u8 H.s1, .int .u8 H.s2, .int .u8 H.s3, .int .u8 H.s4, .int .u8 H.s5, .int .u8 H.s6, .int .u8 H.s7, .int .i64 H.K, .int .i64 H.M, .int .i64 H.B, .string H.key, .int .i64 H.size, .int .i64 H.idx, .int .i64 H.ep, .int .i64 H.ct] rfl (heap_alloc_new w1 _) ?_) | (refine wpList_storeH rfl (.tmp 2) (.tmp 13) rfl w.heap.size #[.int .u8 H.s0, .int .u8 H.s1, .int .u8 H.s2, .int .u8 H.s3, .int .u8 H.s4, .int .u8 H.s5, .int .u8 H.s6, .int .u8 H.s7, .int .i64 H.K, .int .i64 H.M, .int .i64 H.B, .string H.key, .int .i64 H.size, .int .i64 H.idx, .int .i64 H.ep, .int .i64 H.ct] rfl rfl rfl #[.int .u8 0, .int .u8 0, .int .u8 0, .int .u8 0, .int .u8 0, .int .u8 0, .int .u8 0, .int .u8 0, .int .i64 0, .int .i64 0, .int .i64 0, .string ⟨#[]⟩, .int .i64 0, .int .i64 0, .int .i64 0, .int .i64 0] rfl HZA.out rfl ?_; intro w2 h2 g2 z2))
  have HB2 := Lib.hid (show Below w.heap.size w w2 from Below.trans_row (HW.out.alloc HW.out.size _) g2 (Nat.le_refl _) (by simp; omega))
  exact ret_cellH Try.results30 rfl rfl rfl h2 ⟨by rw [HER.out, ← HH.out]; rfl, HB2.out⟩
end Go.Proofs.Ytbioanbokbhmgaa
