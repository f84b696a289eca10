/- Fixed, HeadSum, HeadBytes, Frame of the document: the walks. Conditions: a head that may be; bytes. -/
import Derived.Test.YtbioanbokbhmgaaRefA
import Derived.Test.YtbioanbokbhmgaaOwl
namespace Go.Proofs.Ytbioanbokbhmgaa
open Go.RowKit

theorem low_int (v : Int) (n : Nat) (w : World) (h0 : 0 ≤ v) (h1 : v < 9223372036854775808) (hn : n ≤ 4) :
    Calls Try.prog 58 #[.int .i64 v, .int .i64 (n : Int)] w fun e w' => ∃ o, e = .returned o ∧ OwnB w' w.heap.size o (le n v.toNat) ∧ Below w.heap.size w w' := by
  obtain ⟨v', rfl⟩ := Int.eq_ofNat_of_zero_le h0
  exact low_any v' n w (by omega) hn
def stL (h : Hd) : List Nat := [h.s0.toNat, h.s1.toNat, h.s2.toNat, h.s3.toNat, h.s4.toNat, h.s5.toNat, h.s6.toNat, h.s7.toNat]
theorem fix_flat {h : Hd} : ([[67, 82, 78, 2], stL h, le 1 h.K.toNat, le 1 h.M.toNat, le 4 h.B.toNat, le 4 h.size.toNat, le 1 h.idx.toNat, le 4 h.ep.toNat, le 4 h.ct.toNat, le 1 h.key.size] : List (List Nat)).flatten = fixL h := by
  unfold fixL stL
  simp only [List.flatten_cons, List.flatten_nil, List.append_nil, List.append_assoc]
theorem st_rl {w : World} {b : Nat} {h : Hd} (H : HdAt w b h) (hB : HdB h) (hlt : b < w.heap.size) : RL w (some ⟨b, 0, none⟩) (stL h) := by
  obtain ⟨c0, c1, c2, c3, c4, c5, c6, c7, _⟩ := H
  obtain ⟨b0, b1, b2, b3, b4, b5, b6, b7⟩ := hB
  intro i hi
  refine ⟨b, 0, rfl, hlt, ?_⟩
  have hi : i < 8 := hi
  rw [Nat.zero_add]
  match i, hi with
  | 0, _ => rw [c0]; show _ = some (Value.int .u8 (h.s0.toNat : Int)); rw [Int.toNat_of_nonneg b0.1]
  | 1, _ => rw [c1]; show _ = some (Value.int .u8 (h.s1.toNat : Int)); rw [Int.toNat_of_nonneg b1.1]
  | 2, _ => rw [c2]; show _ = some (Value.int .u8 (h.s2.toNat : Int)); rw [Int.toNat_of_nonneg b2.1]
  | 3, _ => rw [c3]; show _ = some (Value.int .u8 (h.s3.toNat : Int)); rw [Int.toNat_of_nonneg b3.1]
  | 4, _ => rw [c4]; show _ = some (Value.int .u8 (h.s4.toNat : Int)); rw [Int.toNat_of_nonneg b4.1]
  | 5, _ => rw [c5]; show _ = some (Value.int .u8 (h.s5.toNat : Int)); rw [Int.toNat_of_nonneg b5.1]
  | 6, _ => rw [c6]; show _ = some (Value.int .u8 (h.s6.toNat : Int)); rw [Int.toNat_of_nonneg b6.1]
  | 7, _ => rw [c7]; show _ = some (Value.int .u8 (h.s7.toNat : Int)); rw [Int.toNat_of_nonneg b7.1]
set_option maxRecDepth 100000 in
set_option maxHeartbeats 4000000 in
theorem fixed_any (h : Hd) (w : World) (hB : HdB h) (HE : checkE h = 0) : Calls Try.prog 72 #[.agg #[.int .u8 h.s0, .int .u8 h.s1, .int .u8 h.s2, .int .u8 h.s3, .int .u8 h.s4, .int .u8 h.s5, .int .u8 h.s6, .int .u8 h.s7, .int .i64 h.K, .int .i64 h.M, .int .i64 h.B, .string h.key, .int .i64 h.size, .int .i64 h.idx, .int .i64 h.ep, .int .i64 h.ct]] w fun e w' => ∃ o, e = .returned o ∧ OwnB w' w.heap.size o (fixL h) ∧ Below w.heap.size w w' := by
  obtain ⟨hm, k0, k1, hE, i0, i1, e0, e1, t0, t1⟩ := check_facts HE
  obtain ⟨z0, z1, _⟩ := size_facts hE
  obtain ⟨m1, m2, m3, m4, m5, m6⟩ := hm
  have HE := Lib.hid HE; have hE := Lib.hid hE
  have hbA := (Below.refl w.heap.size w).alloc (Nat.le_refl _) (.cells #[.int .u8 h.s0, .int .u8 h.s1, .int .u8 h.s2, .int .u8 h.s3, .int .u8 h.s4, .int .u8 h.s5, .int .u8 h.s6, .int .u8 h.s7, .int .i64 h.K, .int .i64 h.M, .int .i64 h.B, .string h.key, .int .i64 h.size, .int .i64 h.idx, .int .i64 h.ep, .int .i64 h.ct] 28)
  have HH : Hid (∀ w', Below (w.alloc (.cells #[.int .u8 h.s0, .int .u8 h.s1, .int .u8 h.s2, .int .u8 h.s3, .int .u8 h.s4, .int .u8 h.s5, .int .u8 h.s6, .int .u8 h.s7, .int .i64 h.K, .int .i64 h.M, .int .i64 h.B, .string h.key, .int .i64 h.size, .int .i64 h.idx, .int .i64 h.ep, .int .i64 h.ct] 28)).heap.size (w.alloc (.cells #[.int .u8 h.s0, .int .u8 h.s1, .int .u8 h.s2, .int .u8 h.s3, .int .u8 h.s4, .int .u8 h.s5, .int .u8 h.s6, .int .u8 h.s7, .int .i64 h.K, .int .i64 h.M, .int .i64 h.B, .string h.key, .int .i64 h.size, .int .i64 h.idx, .int .i64 h.ep, .int .i64 h.ct] 28)) w' → HdAt w' w.heap.size h) := fun w' hb => (HdAt.new w h).below hb (by simp)
  have HST : Hid (∀ w', Below (w.alloc (.cells #[.int .u8 h.s0, .int .u8 h.s1, .int .u8 h.s2, .int .u8 h.s3, .int .u8 h.s4, .int .u8 h.s5, .int .u8 h.s6, .int .u8 h.s7, .int .i64 h.K, .int .i64 h.M, .int .i64 h.B, .string h.key, .int .i64 h.size, .int .i64 h.idx, .int .i64 h.ep, .int .i64 h.ct] 28)).heap.size (w.alloc (.cells #[.int .u8 h.s0, .int .u8 h.s1, .int .u8 h.s2, .int .u8 h.s3, .int .u8 h.s4, .int .u8 h.s5, .int .u8 h.s6, .int .u8 h.s7, .int .i64 h.K, .int .i64 h.M, .int .i64 h.B, .string h.key, .int .i64 h.size, .int .i64 h.idx, .int .i64 h.ep, .int .i64 h.ct] 28)) w' → RL w' (some ⟨w.heap.size, 0, none⟩) (stL h)) := fun w' hb => st_rl (HH.out w' hb) hB (by have := hb.size; simp at this; omega)
  clear hB
  go_enter Try.func72, Try.ntmps72
  go_wp2_with fail
  obtain ⟨w1, hw1⟩ : ∃ w1, w1 = w.alloc (.cells #[.int .u8 h.s0, .int .u8 h.s1, .int .u8 h.s2, .int .u8 h.s3, .int .u8 h.s4, .int .u8 h.s5, .int .u8 h.s6, .int .u8 h.s7, .int .i64 h.K, .int .i64 h.M, .int .i64 h.B, .string h.key, .int .i64 h.size, .int .i64 h.idx, .int .i64 h.ep, .int .i64 h.ct] 28) := ⟨_, rfl⟩
  rw [← hw1] at HH HST hbA ⊢
  obtain ⟨B0, hB0⟩ : ∃ B0, B0 = w1.heap.size := ⟨_, rfl⟩
  have hB1 : w.heap.size ≤ B0 := by rw [hB0]; exact hbA.size
  clear hw1
  refine wp_region_facts [.rl [67, 82, 78, 2], .is (.pointer (some ⟨w.heap.size, 0, none⟩)), .rl (stL h), .is (.pointer (some ⟨w.heap.size, 8, none⟩)), .is (.pointer (some ⟨w.heap.size, 8, none⟩)), .is (.int .i64 h.K), .rl (le 1 h.K.toNat), .is (.pointer (some ⟨w.heap.size, 8, none⟩)), .is (.pointer (some ⟨w.heap.size, 9, none⟩)), .is (.int .i64 h.M), .rl (le 1 h.M.toNat), .is (.pointer (some ⟨w.heap.size, 8, none⟩)), .is (.pointer (some ⟨w.heap.size, 10, none⟩)), .is (.int .i64 h.B), .rl (le 4 h.B.toNat), .is (.pointer (some ⟨w.heap.size, 12, none⟩)), .is (.int .i64 h.size), .rl (le 4 h.size.toNat), .is (.pointer (some ⟨w.heap.size, 13, none⟩)), .is (.int .i64 h.idx), .rl (le 1 h.idx.toNat), .is (.pointer (some ⟨w.heap.size, 14, none⟩)), .is (.pointer (some ⟨w.heap.size, 14, none⟩)), .is (.int .i64 h.ep), .rl (le 4 h.ep.toNat), .is (.pointer (some ⟨w.heap.size, 14, none⟩)), .is (.pointer (some ⟨w.heap.size, 15, none⟩)), .is (.int .i64 h.ct), .rl (le 4 h.ct.toNat), .is (.pointer (some ⟨w.heap.size, 11, none⟩)), .is (.string h.key), .is (.int .i64 (h.key.size : Nat)), .rl (le 1 h.key.size), .rll [[67, 82, 78, 2], stL h, le 1 h.K.toNat, le 1 h.M.toNat, le 4 h.B.toNat, le 4 h.size.toNat, le 1 h.idx.toNat, le 4 h.ep.toNat, le 4 h.ct.toNat, le 1 h.key.size], .own B0 (fixL h), .own B0 (fixL h)] mixed (by kernel_rfl) (fun hdr => ⟨?_, ?_, ?_, ?_, ?_, ?_, ?_, ?_, ?_, ?_, ?_, ?_, ?_, ?_, ?_, ?_, ?_, ?_, ?_, ?_, ?_, ?_, ?_, ?_, ?_, ?_, ?_, ?_, ?_, ?_, ?_, ?_, ?_, ?_, ?_, ?_, trivial⟩) (fun wE hbE => ?_)
  · intro a w2 hb hs K hK
    repeat (intro _)
    refine ⟨?_⟩
    go_simp
    exact hK.out _ _ ((Below.refl _ _).alloc (Nat.le_refl _) _) ⟨_, _, rfl, rl_new _ (by rfl)⟩
  · intro a w2 hb hs K hK
    repeat (intro _)
    refine ⟨?_⟩
    have h1 : a.tmps[1]?.getD undef = .pointer (some ⟨w.heap.size, 0, none⟩) := hs 1 (by kernel_rfl)
    go_simp
    exact hK.out _ _ (Below.refl _ _) rfl
  · intro a w2 hb hs K hK
    repeat (intro _)
    refine ⟨?_⟩
    have h4 : a.tmps[4]?.getD undef = .pointer (some ⟨w.heap.size, 0, none⟩) := by assumption
    go_simp
    exact hK.out _ _ (Below.refl _ _) ⟨_, _, rfl, HST.out w2 (hdr.out.trans (hb.mono hdr.out.size))⟩
  · intro a w2 hb hs K hK
    repeat (intro _)
    refine ⟨?_⟩
    have h1 : a.tmps[1]?.getD undef = .pointer (some ⟨w.heap.size, 0, none⟩) := hs 1 (by kernel_rfl)
    go_simp
    exact hK.out _ _ (Below.refl _ _) rfl
  · intro a w2 hb hs K hK
    repeat (intro _)
    refine ⟨?_⟩
    have h6 : a.tmps[6]?.getD undef = .pointer (some ⟨w.heap.size, 8, none⟩) := by assumption
    go_simp
    exact hK.out _ _ (Below.refl _ _) rfl
  · intro a w2 hb hs K hK
    repeat (intro _)
    refine ⟨?_⟩
    have h7 : a.tmps[7]?.getD undef = .pointer (some ⟨w.heap.size, 8, none⟩) := by assumption
    obtain ⟨c0, c1, c2, c3, c4, c5, c6, c7, c8, c9, c10, c11, c12, c13, c14, c15⟩ := HH.out w2 (hdr.out.trans (hb.mono hdr.out.size))
    go_simp
    exact hK.out _ _ (Below.refl _ _) rfl
  · intro a w2 hb hs K hK
    repeat (intro _)
    refine ⟨?_⟩
    have h8 : a.tmps[8]?.getD undef = .int .i64 h.K := by assumption
    go_simp
    refine (low_int h.K 1 w2 (by omega) (by omega) (by omega)).mono ?_
    rintro e w3 ⟨o, rfl, hO, hb3⟩
    exact hK.out _ _ hb3 hO.isRL
  · intro a w2 hb hs K hK
    repeat (intro _)
    refine ⟨?_⟩
    have h1 : a.tmps[1]?.getD undef = .pointer (some ⟨w.heap.size, 0, none⟩) := hs 1 (by kernel_rfl)
    go_simp
    exact hK.out _ _ (Below.refl _ _) rfl
  · intro a w2 hb hs K hK
    repeat (intro _)
    refine ⟨?_⟩
    have h10 : a.tmps[10]?.getD undef = .pointer (some ⟨w.heap.size, 8, none⟩) := by assumption
    go_simp
    exact hK.out _ _ (Below.refl _ _) rfl
  · intro a w2 hb hs K hK
    repeat (intro _)
    refine ⟨?_⟩
    have h11 : a.tmps[11]?.getD undef = .pointer (some ⟨w.heap.size, 9, none⟩) := by assumption
    obtain ⟨c0, c1, c2, c3, c4, c5, c6, c7, c8, c9, c10, c11, c12, c13, c14, c15⟩ := HH.out w2 (hdr.out.trans (hb.mono hdr.out.size))
    go_simp
    exact hK.out _ _ (Below.refl _ _) rfl
  · intro a w2 hb hs K hK
    repeat (intro _)
    refine ⟨?_⟩
    have h12 : a.tmps[12]?.getD undef = .int .i64 h.M := by assumption
    go_simp
    refine (low_int h.M 1 w2 (by omega) (by omega) (by omega)).mono ?_
    rintro e w3 ⟨o, rfl, hO, hb3⟩
    exact hK.out _ _ hb3 hO.isRL
  · intro a w2 hb hs K hK
    repeat (intro _)
    refine ⟨?_⟩
    have h1 : a.tmps[1]?.getD undef = .pointer (some ⟨w.heap.size, 0, none⟩) := hs 1 (by kernel_rfl)
    go_simp
    exact hK.out _ _ (Below.refl _ _) rfl
  · intro a w2 hb hs K hK
    repeat (intro _)
    refine ⟨?_⟩
    have h14 : a.tmps[14]?.getD undef = .pointer (some ⟨w.heap.size, 8, none⟩) := by assumption
    go_simp
    exact hK.out _ _ (Below.refl _ _) rfl
  · intro a w2 hb hs K hK
    repeat (intro _)
    refine ⟨?_⟩
    have h15 : a.tmps[15]?.getD undef = .pointer (some ⟨w.heap.size, 10, none⟩) := by assumption
    obtain ⟨c0, c1, c2, c3, c4, c5, c6, c7, c8, c9, c10, c11, c12, c13, c14, c15⟩ := HH.out w2 (hdr.out.trans (hb.mono hdr.out.size))
    go_simp
    exact hK.out _ _ (Below.refl _ _) rfl
  · intro a w2 hb hs K hK
    repeat (intro _)
    refine ⟨?_⟩
    have h16 : a.tmps[16]?.getD undef = .int .i64 h.B := by assumption
    go_simp
    refine (low_int h.B 4 w2 (by omega) (by omega) (by omega)).mono ?_
    rintro e w3 ⟨o, rfl, hO, hb3⟩
    exact hK.out _ _ hb3 hO.isRL
  · intro a w2 hb hs K hK
    repeat (intro _)
    refine ⟨?_⟩
    have h1 : a.tmps[1]?.getD undef = .pointer (some ⟨w.heap.size, 0, none⟩) := hs 1 (by kernel_rfl)
    go_simp
    exact hK.out _ _ (Below.refl _ _) rfl
  · intro a w2 hb hs K hK
    repeat (intro _)
    refine ⟨?_⟩
    have h18 : a.tmps[18]?.getD undef = .pointer (some ⟨w.heap.size, 12, none⟩) := by assumption
    obtain ⟨c0, c1, c2, c3, c4, c5, c6, c7, c8, c9, c10, c11, c12, c13, c14, c15⟩ := HH.out w2 (hdr.out.trans (hb.mono hdr.out.size))
    go_simp
    exact hK.out _ _ (Below.refl _ _) rfl
  · intro a w2 hb hs K hK
    repeat (intro _)
    refine ⟨?_⟩
    have h19 : a.tmps[19]?.getD undef = .int .i64 h.size := by assumption
    go_simp
    refine (low_int h.size 4 w2 (by omega) (by omega) (by omega)).mono ?_
    rintro e w3 ⟨o, rfl, hO, hb3⟩
    exact hK.out _ _ hb3 hO.isRL
  · intro a w2 hb hs K hK
    repeat (intro _)
    refine ⟨?_⟩
    have h1 : a.tmps[1]?.getD undef = .pointer (some ⟨w.heap.size, 0, none⟩) := hs 1 (by kernel_rfl)
    go_simp
    exact hK.out _ _ (Below.refl _ _) rfl
  · intro a w2 hb hs K hK
    repeat (intro _)
    refine ⟨?_⟩
    have h21 : a.tmps[21]?.getD undef = .pointer (some ⟨w.heap.size, 13, none⟩) := by assumption
    obtain ⟨c0, c1, c2, c3, c4, c5, c6, c7, c8, c9, c10, c11, c12, c13, c14, c15⟩ := HH.out w2 (hdr.out.trans (hb.mono hdr.out.size))
    go_simp
    exact hK.out _ _ (Below.refl _ _) rfl
  · intro a w2 hb hs K hK
    repeat (intro _)
    refine ⟨?_⟩
    have h22 : a.tmps[22]?.getD undef = .int .i64 h.idx := by assumption
    go_simp
    refine (low_int h.idx 1 w2 (by omega) (by omega) (by omega)).mono ?_
    rintro e w3 ⟨o, rfl, hO, hb3⟩
    exact hK.out _ _ hb3 hO.isRL
  · intro a w2 hb hs K hK
    repeat (intro _)
    refine ⟨?_⟩
    have h1 : a.tmps[1]?.getD undef = .pointer (some ⟨w.heap.size, 0, none⟩) := hs 1 (by kernel_rfl)
    go_simp
    exact hK.out _ _ (Below.refl _ _) rfl
  · intro a w2 hb hs K hK
    repeat (intro _)
    refine ⟨?_⟩
    have h24 : a.tmps[24]?.getD undef = .pointer (some ⟨w.heap.size, 14, none⟩) := by assumption
    go_simp
    exact hK.out _ _ (Below.refl _ _) rfl
  · intro a w2 hb hs K hK
    repeat (intro _)
    refine ⟨?_⟩
    have h25 : a.tmps[25]?.getD undef = .pointer (some ⟨w.heap.size, 14, none⟩) := by assumption
    obtain ⟨c0, c1, c2, c3, c4, c5, c6, c7, c8, c9, c10, c11, c12, c13, c14, c15⟩ := HH.out w2 (hdr.out.trans (hb.mono hdr.out.size))
    go_simp
    exact hK.out _ _ (Below.refl _ _) rfl
  · intro a w2 hb hs K hK
    repeat (intro _)
    refine ⟨?_⟩
    have h26 : a.tmps[26]?.getD undef = .int .i64 h.ep := by assumption
    go_simp
    refine (low_int h.ep 4 w2 (by omega) (by omega) (by omega)).mono ?_
    rintro e w3 ⟨o, rfl, hO, hb3⟩
    exact hK.out _ _ hb3 hO.isRL
  · intro a w2 hb hs K hK
    repeat (intro _)
    refine ⟨?_⟩
    have h1 : a.tmps[1]?.getD undef = .pointer (some ⟨w.heap.size, 0, none⟩) := hs 1 (by kernel_rfl)
    go_simp
    exact hK.out _ _ (Below.refl _ _) rfl
  · intro a w2 hb hs K hK
    repeat (intro _)
    refine ⟨?_⟩
    have h28 : a.tmps[28]?.getD undef = .pointer (some ⟨w.heap.size, 14, none⟩) := by assumption
    go_simp
    exact hK.out _ _ (Below.refl _ _) rfl
  · intro a w2 hb hs K hK
    repeat (intro _)
    refine ⟨?_⟩
    have h29 : a.tmps[29]?.getD undef = .pointer (some ⟨w.heap.size, 15, none⟩) := by assumption
    obtain ⟨c0, c1, c2, c3, c4, c5, c6, c7, c8, c9, c10, c11, c12, c13, c14, c15⟩ := HH.out w2 (hdr.out.trans (hb.mono hdr.out.size))
    go_simp
    exact hK.out _ _ (Below.refl _ _) rfl
  · intro a w2 hb hs K hK
    repeat (intro _)
    refine ⟨?_⟩
    have h30 : a.tmps[30]?.getD undef = .int .i64 h.ct := by assumption
    go_simp
    refine (low_int h.ct 4 w2 (by omega) (by omega) (by omega)).mono ?_
    rintro e w3 ⟨o, rfl, hO, hb3⟩
    exact hK.out _ _ hb3 hO.isRL
  · intro a w2 hb hs K hK
    repeat (intro _)
    refine ⟨?_⟩
    have h1 : a.tmps[1]?.getD undef = .pointer (some ⟨w.heap.size, 0, none⟩) := hs 1 (by kernel_rfl)
    go_simp
    exact hK.out _ _ (Below.refl _ _) rfl
  · intro a w2 hb hs K hK
    repeat (intro _)
    refine ⟨?_⟩
    have h32 : a.tmps[32]?.getD undef = .pointer (some ⟨w.heap.size, 11, none⟩) := by assumption
    obtain ⟨c0, c1, c2, c3, c4, c5, c6, c7, c8, c9, c10, c11, c12, c13, c14, c15⟩ := HH.out w2 (hdr.out.trans (hb.mono hdr.out.size))
    go_simp
    exact hK.out _ _ (Below.refl _ _) rfl
  · intro a w2 hb hs K hK
    repeat (intro _)
    refine ⟨?_⟩
    have h33 : a.tmps[33]?.getD undef = .string h.key := by assumption
    go_simp
    exact hK.out _ _ (Below.refl _ _) rfl
  · intro a w2 hb hs K hK
    repeat (intro _)
    refine ⟨?_⟩
    have h34 : a.tmps[34]?.getD undef = .int .i64 (h.key.size : Nat) := by assumption
    go_simp
    refine (low_int (h.key.size : Nat) 1 w2 (by omega) (by omega) (by omega)).mono ?_
    rintro e w3 ⟨o, rfl, hO, hb3⟩
    exact hK.out _ _ hb3 hO.isRL
  · intro a w2 hb hs K hK
    repeat (intro _)
    refine ⟨?_⟩
    obtain ⟨A3, c3, h3, r3⟩ : IsRL ([67, 82, 78, 2]) (a.tmps[3]?.getD undef) w2 := by assumption
    obtain ⟨A5, c5, h5, r5⟩ : IsRL (stL h) (a.tmps[5]?.getD undef) w2 := by assumption
    obtain ⟨A9, c9, h9, r9⟩ : IsRL (le 1 h.K.toNat) (a.tmps[9]?.getD undef) w2 := by assumption
    obtain ⟨A13, c13, h13, r13⟩ : IsRL (le 1 h.M.toNat) (a.tmps[13]?.getD undef) w2 := by assumption
    obtain ⟨A17, c17, h17, r17⟩ : IsRL (le 4 h.B.toNat) (a.tmps[17]?.getD undef) w2 := by assumption
    obtain ⟨A20, c20, h20, r20⟩ : IsRL (le 4 h.size.toNat) (a.tmps[20]?.getD undef) w2 := by assumption
    obtain ⟨A23, c23, h23, r23⟩ : IsRL (le 1 h.idx.toNat) (a.tmps[23]?.getD undef) w2 := by assumption
    obtain ⟨A27, c27, h27, r27⟩ : IsRL (le 4 h.ep.toNat) (a.tmps[27]?.getD undef) w2 := by assumption
    obtain ⟨A31, c31, h31, r31⟩ : IsRL (le 4 h.ct.toNat) (a.tmps[31]?.getD undef) w2 := by assumption
    obtain ⟨A35, c35, h35, r35⟩ : IsRL (le 1 h.key.size) (a.tmps[35]?.getD undef) w2 := by assumption
    go_simp
    exact hK.out _ _ ((Below.refl _ _).alloc (Nat.le_refl _) _) (isRLL_new (LL := [[67, 82, 78, 2], stL h, le 1 h.K.toNat, le 1 h.M.toNat, le 4 h.B.toNat, le 4 h.size.toNat, le 1 h.idx.toNat, le 4 h.ep.toNat, le 4 h.ct.toNat, le 1 h.key.size]) ⟨⟨_, _, rfl, r3⟩, ⟨_, _, rfl, r5⟩, ⟨_, _, rfl, r9⟩, ⟨_, _, rfl, r13⟩, ⟨_, _, rfl, r17⟩, ⟨_, _, rfl, r20⟩, ⟨_, _, rfl, r23⟩, ⟨_, _, rfl, r27⟩, ⟨_, _, rfl, r31⟩, ⟨_, _, rfl, r35⟩, trivial⟩ rfl)
  · intro a w2 hb hs K hK
    repeat (intro _)
    refine ⟨?_⟩
    obtain ⟨A36, c36, h36, r36⟩ : IsRLL ([[67, 82, 78, 2], stL h, le 1 h.K.toNat, le 1 h.M.toNat, le 4 h.B.toNat, le 4 h.size.toNat, le 1 h.idx.toNat, le 4 h.ep.toNat, le 4 h.ct.toNat, le 1 h.key.size]) (a.tmps[36]?.getD undef) w2 := by assumption
    go_simp
    refine (join_any A36 c36 ([[67, 82, 78, 2], stL h, le 1 h.K.toNat, le 1 h.M.toNat, le 4 h.B.toNat, le 4 h.size.toNat, le 1 h.idx.toNat, le 4 h.ep.toNat, le 4 h.ct.toNat, le 1 h.key.size]) w2 (by simp) (by rw [fix_flat]; rw [fixL_length]; decide) r36).mono ?_
    rintro e w3 ⟨o, rfl, hO, hb3⟩
    rw [fix_flat] at hO
    exact hK.out _ _ hb3 (hO.mono (by rw [hB0]; exact (hdr.out.trans (hb.mono hdr.out.size)).size))
  · intro a w2 hb hs K hK
    repeat (intro _)
    refine ⟨?_⟩
    have h37 : IsOwnB B0 (fixL h) (a.tmps[37]?.getD undef) w2 := by assumption
    go_simp
    exact hK.out _ _ (Below.refl _ _) h37

  intro v0 f0 v1 f1 v2 f2 v3 f3 v4 f4 v5 f5 v6 f6 v7 f7 v8 f8 v9 f9 v10 f10 v11 f11 v12 f12 v13 f13 v14 f14 v15 f15 v16 f16 v17 f17 v18 f18 v19 f19 v20 f20 v21 f21 v22 f22 v23 f23 v24 f24 v25 f25 v26 f26 v27 f27 v28 f28 v29 f29 v30 f30 v31 f31 v32 f32 v33 f33 v34 f34 v35 f35
  refine NoPanic.normal ?_
  simp only [Act.put, List.setIfInBounds_toArray, List.set_cons_zero, List.set_cons_succ]
  go_wp2
  go_ret
  exact ⟨_, rfl, OwnB.mono f35 hB1, hbA.trans (hbE.mono (by omega))⟩
end Go.Proofs.Ytbioanbokbhmgaa
