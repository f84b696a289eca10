/- HeadSum, HeadBytes, Frame of the document: the walks. Conditions: a head that may be; bytes. -/
import Derived.Test.YtbioanbokbhmgaaRefB
namespace Go.Proofs.Ytbioanbokbhmgaa
open Go.RowKit

def preL (h : Hd) : List Nat := fixL h ++ bl h.key
theorem preL_length (h : Hd) : (preL h).length = 32 + h.key.size := by simp [preL, fixL_length, bl_length]
theorem preL_lt {h : Hd} (hB : HdB h) : ∀ x ∈ preL h, x < 256 := fun x hx => (List.mem_append.1 hx).elim (fixL_lt hB x) (bl_lt _ x)
theorem pre_flat {h : Hd} : ([fixL h, bl h.key] : List (List Nat)).flatten = preL h := by simp [preL]
theorem pre_crc {h : Hd} : crc (preL h) = sum2 h := rfl
theorem fix_crc {h : Hd} : crc (fixL h) = sum1 h := rfl
def blkL (s j : Nat) (l : List Nat) : List Nat := le 4 s ++ le 4 j ++ l
theorem blkL_length (s j : Nat) (l : List Nat) : (blkL s j l).length = 8 + l.length := by simp [blkL, le_length]; omega
theorem blkL_lt {s j : Nat} {l : List Nat} (hl : ∀ x ∈ l, x < 256) : ∀ x ∈ blkL s j l, x < 256 := fun x hx => by
  rcases List.mem_append.1 hx with hx | hx
  · rcases List.mem_append.1 hx with hx | hx <;> exact le_lt hx
  · exact hl x hx
theorem blk_crc (s j : Nat) (l : List Nat) : crc (blkL s j l) = sumB s j l := rfl
theorem sumB_lt {s j : Nat} {l : List Nat} (hl : ∀ x ∈ l, x < 256) : sumB s j l < 4294967296 := crc_lt (blkL_lt hl)
theorem head_flat {h : Hd} : ([fixL h, le 4 (sum1 h), bl h.key, le 4 (sum2 h)] : List (List Nat)).flatten = headL h := by
  unfold headL
  simp only [List.flatten_cons, List.flatten_nil, List.append_nil, List.append_assoc]
theorem sums_lt {h : Hd} (hB : HdB h) : sum1 h < 4294967296 ∧ sum2 h < 4294967296 := ⟨crc_lt (fixL_lt hB), crc_lt fun x hx => (List.mem_append.1 hx).elim (fixL_lt hB x) (bl_lt _ x)⟩
set_option maxRecDepth 100000 in
set_option maxHeartbeats 4000000 in
theorem headsum_any (h : Hd) (w : World) (hB : HdB h) (HE : checkE h = 0) : Calls Try.prog 57 #[.agg #[.int .u8 h.s0, .int .u8 h.s1, .int .u8 h.s2, .int .u8 h.s3, .int .u8 h.s4, .int .u8 h.s5, .int .u8 h.s6, .int .u8 h.s7, .int .i64 h.K, .int .i64 h.M, .int .i64 h.B, .string h.key, .int .i64 h.size, .int .i64 h.idx, .int .i64 h.ep, .int .i64 h.ct]] w fun e w' => e = .returned (.int .i64 (sum2 h : Nat)) ∧ Below w.heap.size w w' := by
  obtain ⟨_, k0, k1, _⟩ := check_facts HE
  have hbA := (Below.refl w.heap.size w).alloc (Nat.le_refl _) (.cells #[.int .u8 h.s0, .int .u8 h.s1, .int .u8 h.s2, .int .u8 h.s3, .int .u8 h.s4, .int .u8 h.s5, .int .u8 h.s6, .int .u8 h.s7, .int .i64 h.K, .int .i64 h.M, .int .i64 h.B, .string h.key, .int .i64 h.size, .int .i64 h.idx, .int .i64 h.ep, .int .i64 h.ct] 28)
  have HH : Hid (∀ w', Below (w.alloc (.cells #[.int .u8 h.s0, .int .u8 h.s1, .int .u8 h.s2, .int .u8 h.s3, .int .u8 h.s4, .int .u8 h.s5, .int .u8 h.s6, .int .u8 h.s7, .int .i64 h.K, .int .i64 h.M, .int .i64 h.B, .string h.key, .int .i64 h.size, .int .i64 h.idx, .int .i64 h.ep, .int .i64 h.ct] 28)).heap.size (w.alloc (.cells #[.int .u8 h.s0, .int .u8 h.s1, .int .u8 h.s2, .int .u8 h.s3, .int .u8 h.s4, .int .u8 h.s5, .int .u8 h.s6, .int .u8 h.s7, .int .i64 h.K, .int .i64 h.M, .int .i64 h.B, .string h.key, .int .i64 h.size, .int .i64 h.idx, .int .i64 h.ep, .int .i64 h.ct] 28)) w' → HdAt w' w.heap.size h) := fun w' hb => (HdAt.new w h).below hb (by simp)
  go_enter Try.func57, Try.ntmps57
  go_wp2_with fail
  obtain ⟨w1, hw1⟩ : ∃ w1, w1 = w.alloc (.cells #[.int .u8 h.s0, .int .u8 h.s1, .int .u8 h.s2, .int .u8 h.s3, .int .u8 h.s4, .int .u8 h.s5, .int .u8 h.s6, .int .u8 h.s7, .int .i64 h.K, .int .i64 h.M, .int .i64 h.B, .string h.key, .int .i64 h.size, .int .i64 h.idx, .int .i64 h.ep, .int .i64 h.ct] 28) := ⟨_, rfl⟩
  rw [← hw1] at HH hbA ⊢
  clear hw1
  refine wp_region_facts [.is (.agg #[.int .u8 h.s0, .int .u8 h.s1, .int .u8 h.s2, .int .u8 h.s3, .int .u8 h.s4, .int .u8 h.s5, .int .u8 h.s6, .int .u8 h.s7, .int .i64 h.K, .int .i64 h.M, .int .i64 h.B, .string h.key, .int .i64 h.size, .int .i64 h.idx, .int .i64 h.ep, .int .i64 h.ct]), .rl (fixL h), .is (.pointer (some ⟨w.heap.size, 11, none⟩)), .is (.string h.key), .rl (bl h.key), .rll [fixL h, bl h.key], .rl (preL h), .is (.int .i64 (sum2 h : Nat)), .is (.int .i64 (sum2 h : Nat))] mixed (by kernel_rfl) (fun hdr => ⟨?_, ?_, ?_, ?_, ?_, ?_, ?_, ?_, ?_, trivial⟩) (fun wE hbE => ?_)
  · intro a w2 hb hs K hK
    repeat (intro _)
    refine ⟨?_⟩
    have h1 : a.tmps[1]?.getD undef = .pointer (some ⟨w.heap.size, 0, none⟩) := hs 1 (by kernel_rfl)
    obtain ⟨c0, c1, c2, c3, c4, c5, c6, c7, c8, c9, c10, c11, c12, c13, c14, c15⟩ := HH.out w2 (hdr.out.trans (hb.mono hdr.out.size))
    go_simp
    exact hK.out _ _ (Below.refl _ _) rfl
  · intro a w2 hb hs K hK
    repeat (intro _)
    refine ⟨?_⟩
    have h3 : a.tmps[3]?.getD undef = .agg #[.int .u8 h.s0, .int .u8 h.s1, .int .u8 h.s2, .int .u8 h.s3, .int .u8 h.s4, .int .u8 h.s5, .int .u8 h.s6, .int .u8 h.s7, .int .i64 h.K, .int .i64 h.M, .int .i64 h.B, .string h.key, .int .i64 h.size, .int .i64 h.idx, .int .i64 h.ep, .int .i64 h.ct] := by assumption
    go_simp
    refine (fixed_any h w2 hB HE).mono ?_
    rintro e w3 ⟨o, rfl, hO, hb3⟩
    exact hK.out _ _ hb3 hO.isRL
  · intro a w2 hb hs K hK
    repeat (intro _)
    refine ⟨?_⟩
    have h1 : a.tmps[1]?.getD undef = .pointer (some ⟨w.heap.size, 0, none⟩) := hs 1 (by kernel_rfl)
    go_simp
    exact hK.out _ _ (Below.refl _ _) rfl
  · intro a w2 hb hs K hK
    repeat (intro _)
    refine ⟨?_⟩
    have h5 : a.tmps[5]?.getD undef = .pointer (some ⟨w.heap.size, 11, none⟩) := by assumption
    obtain ⟨c0, c1, c2, c3, c4, c5, c6, c7, c8, c9, c10, c11, c12, c13, c14, c15⟩ := HH.out w2 (hdr.out.trans (hb.mono hdr.out.size))
    go_simp
    exact hK.out _ _ (Below.refl _ _) rfl
  · intro a w2 hb hs K hK
    repeat (intro _)
    refine ⟨?_⟩
    have h6 : a.tmps[6]?.getD undef = .string h.key := by assumption
    obtain ⟨A, c, w3, hcv, hr, hb3⟩ := conv_bytes w2 h.key
    rw [← bl_length] at hcv
    go_simp
    exact hK.out _ _ hb3 ⟨A, c, rfl, hr⟩
  · intro a w2 hb hs K hK
    repeat (intro _)
    refine ⟨?_⟩
    obtain ⟨A4, c4, h4, r4⟩ : IsRL (fixL h) (a.tmps[4]?.getD undef) w2 := by assumption
    obtain ⟨A7, c7, h7, r7⟩ : IsRL (bl h.key) (a.tmps[7]?.getD undef) w2 := by assumption
    go_simp
    exact hK.out _ _ ((Below.refl _ _).alloc (Nat.le_refl _) _) (isRLL_new (LL := [fixL h, bl h.key]) ⟨⟨_, _, rfl, r4⟩, ⟨_, _, rfl, r7⟩, trivial⟩ rfl)
  · intro a w2 hb hs K hK
    repeat (intro _)
    refine ⟨?_⟩
    obtain ⟨A8, c8, h8, r8⟩ : IsRLL ([fixL h, bl h.key]) (a.tmps[8]?.getD undef) w2 := by assumption
    go_simp
    refine (join_any A8 c8 ([fixL h, bl h.key]) w2 (by simp) (by rw [pre_flat, preL_length]; omega) r8).mono ?_
    rintro e w3 ⟨o, rfl, hO, hb3⟩
    rw [pre_flat] at hO
    exact hK.out _ _ hb3 hO.isRL
  · intro a w2 hb hs K hK
    repeat (intro _)
    refine ⟨?_⟩
    obtain ⟨A9, c9, h9, r9⟩ : IsRL (preL h) (a.tmps[9]?.getD undef) w2 := by assumption
    go_simp
    refine (rsum_any A9 c9 (preL h) w2 (preL_lt hB) (by rw [preL_length]; omega) r9).mono ?_
    rintro e w3 ⟨rfl, rfl⟩
    rw [pre_crc]
    exact hK.out _ _ (Below.refl _ _) rfl
  · intro a w2 hb hs K hK
    repeat (intro _)
    refine ⟨?_⟩
    have h10 : a.tmps[10]?.getD undef = .int .i64 (sum2 h : Nat) := by assumption
    go_simp
    exact hK.out _ _ (Below.refl _ _) rfl
  intro v0 f0 v1 f1 v2 f2 v3 f3 v4 f4 v5 f5 v6 f6 v7 f7 v8 f8
  refine NoPanic.normal ?_
  simp only [Act.put, List.setIfInBounds_toArray, List.set_cons_zero, List.set_cons_succ]
  obtain rfl : v8 = .int .i64 ((sum2 h : Nat) : Int) := f8
  go_wp2
  go_ret
  exact ⟨rfl, hbA.trans (hbE.mono hbA.size)⟩
set_option maxRecDepth 100000 in
set_option maxHeartbeats 4000000 in
theorem headbytes_any (h : Hd) (w : World) (hB : HdB h) (HE : checkE h = 0) : Calls Try.prog 65 #[.agg #[.int .u8 h.s0, .int .u8 h.s1, .int .u8 h.s2, .int .u8 h.s3, .int .u8 h.s4, .int .u8 h.s5, .int .u8 h.s6, .int .u8 h.s7, .int .i64 h.K, .int .i64 h.M, .int .i64 h.B, .string h.key, .int .i64 h.size, .int .i64 h.idx, .int .i64 h.ep, .int .i64 h.ct]] w fun e w' => ∃ o, e = .returned o ∧ OwnB w' w.heap.size o (headL h) ∧ Below w.heap.size w w' := by
  obtain ⟨_, k0, k1, _⟩ := check_facts HE
  have hs12 := sums_lt hB
  have hbA := (Below.refl w.heap.size w).alloc (Nat.le_refl _) (.cells #[.int .u8 h.s0, .int .u8 h.s1, .int .u8 h.s2, .int .u8 h.s3, .int .u8 h.s4, .int .u8 h.s5, .int .u8 h.s6, .int .u8 h.s7, .int .i64 h.K, .int .i64 h.M, .int .i64 h.B, .string h.key, .int .i64 h.size, .int .i64 h.idx, .int .i64 h.ep, .int .i64 h.ct] 28)
  have HH : Hid (∀ w', Below (w.alloc (.cells #[.int .u8 h.s0, .int .u8 h.s1, .int .u8 h.s2, .int .u8 h.s3, .int .u8 h.s4, .int .u8 h.s5, .int .u8 h.s6, .int .u8 h.s7, .int .i64 h.K, .int .i64 h.M, .int .i64 h.B, .string h.key, .int .i64 h.size, .int .i64 h.idx, .int .i64 h.ep, .int .i64 h.ct] 28)).heap.size (w.alloc (.cells #[.int .u8 h.s0, .int .u8 h.s1, .int .u8 h.s2, .int .u8 h.s3, .int .u8 h.s4, .int .u8 h.s5, .int .u8 h.s6, .int .u8 h.s7, .int .i64 h.K, .int .i64 h.M, .int .i64 h.B, .string h.key, .int .i64 h.size, .int .i64 h.idx, .int .i64 h.ep, .int .i64 h.ct] 28)) w' → HdAt w' w.heap.size h) := fun w' hb => (HdAt.new w h).below hb (by simp)
  obtain ⟨c0, c1, c2, c3, c4, c5, c6, c7, c8, c9, c10, c11, c12, c13, c14, c15⟩ := HdAt.new w h
  go_enter Try.func65, Try.ntmps65
  go_wp2_with fail
  clear c0 c1 c2 c3 c4 c5 c6 c7 c8 c9 c10 c11 c12 c13 c14 c15
  refine (fixed_any h _ hB HE).mono ?_
  rintro e w1 ⟨o3, rfl, hO3, hb1⟩
  have HH : Hid (∀ w', Below w1.heap.size w1 w' → HdAt w' w.heap.size h) := fun w' hb => HH.out w' (hb1.trans (hb.mono hb1.size))
  have hbA := hbA.trans (hb1.mono hbA.size)
  have HO3 := Lib.hid hO3
  clear hb1 hO3
  go_wp2_with fail
  obtain ⟨B0, hB0⟩ : ∃ B0, B0 = w1.heap.size := ⟨_, rfl⟩
  have hB1 : w.heap.size ≤ B0 := by rw [hB0]; exact hbA.size
  refine wp_region_facts [.rl (fixL h), .rl (fixL h), .is (.int .i64 (sum1 h : Nat)), .rl (le 4 (sum1 h)), .is (.pointer (some ⟨w.heap.size, 11, none⟩)), .is (.string h.key), .rl (bl h.key), .is (.agg #[.int .u8 h.s0, .int .u8 h.s1, .int .u8 h.s2, .int .u8 h.s3, .int .u8 h.s4, .int .u8 h.s5, .int .u8 h.s6, .int .u8 h.s7, .int .i64 h.K, .int .i64 h.M, .int .i64 h.B, .string h.key, .int .i64 h.size, .int .i64 h.idx, .int .i64 h.ep, .int .i64 h.ct]), .is (.int .i64 (sum2 h : Nat)), .rl (le 4 (sum2 h)), .rll [fixL h, le 4 (sum1 h), bl h.key, le 4 (sum2 h)], .own B0 (headL h), .own B0 (headL h)] mixed (by kernel_rfl) (fun hdr => ⟨?_, ?_, ?_, ?_, ?_, ?_, ?_, ?_, ?_, ?_, ?_, ?_, ?_, trivial⟩) (fun wE hbE => ?_)
  · intro a w2 hb hs K hK
    repeat (intro _)
    refine ⟨?_⟩
    have h3 : a.tmps[3]?.getD undef = o3 := hs 3 (by kernel_rfl)
    obtain ⟨A3, c3, e3, r3⟩ := (OwnB.kept HO3.out (hdr.out.trans (hb.mono hdr.out.size))).isRL
    rw [e3] at h3
    go_simp
    exact hK.out _ _ (Below.refl _ _) ⟨_, _, rfl, r3⟩
  · intro a w2 hb hs K hK
    repeat (intro _)
    refine ⟨?_⟩
    have h3 : a.tmps[3]?.getD undef = o3 := hs 3 (by kernel_rfl)
    obtain ⟨A3, c3, e3, r3⟩ := (OwnB.kept HO3.out (hdr.out.trans (hb.mono hdr.out.size))).isRL
    rw [e3] at h3
    go_simp
    exact hK.out _ _ (Below.refl _ _) ⟨_, _, rfl, r3⟩
  · intro a w2 hb hs K hK
    repeat (intro _)
    refine ⟨?_⟩
    obtain ⟨A7, c7, h7, r7⟩ : IsRL (fixL h) (a.tmps[7]?.getD undef) w2 := by assumption
    go_simp
    refine (rsum_any A7 c7 (fixL h) w2 (fixL_lt hB) (by rw [fixL_length]; decide) r7).mono ?_
    rintro e w3 ⟨rfl, rfl⟩
    rw [fix_crc]
    exact hK.out _ _ (Below.refl _ _) rfl
  · intro a w2 hb hs K hK
    repeat (intro _)
    refine ⟨?_⟩
    have h8 : a.tmps[8]?.getD undef = .int .i64 (sum1 h : Nat) := by assumption
    go_simp
    refine (low_int (sum1 h : Nat) 4 w2 (by omega) (by have := hs12; omega) (by omega)).mono ?_
    rintro e w3 ⟨o, rfl, hO, hb3⟩
    exact hK.out _ _ hb3 hO.isRL
  · intro a w2 hb hs K hK
    repeat (intro _)
    refine ⟨?_⟩
    have h1 : a.tmps[1]?.getD undef = .pointer (some ⟨w.heap.size, 0, none⟩) := hs 1 (by kernel_rfl)
    go_simp
    exact hK.out _ _ (Below.refl _ _) rfl
  · intro a w2 hb hs K hK
    repeat (intro _)
    refine ⟨?_⟩
    have h10 : a.tmps[10]?.getD undef = .pointer (some ⟨w.heap.size, 11, none⟩) := by assumption
    obtain ⟨c0, c1, c2, c3, c4, c5, c6, c7, c8, c9, c10, c11, c12, c13, c14, c15⟩ := HH.out w2 (hdr.out.trans (hb.mono hdr.out.size))
    go_simp
    exact hK.out _ _ (Below.refl _ _) rfl
  · intro a w2 hb hs K hK
    repeat (intro _)
    refine ⟨?_⟩
    have h11 : a.tmps[11]?.getD undef = .string h.key := by assumption
    obtain ⟨A, c, w3, hcv, hr, hb3⟩ := conv_bytes w2 h.key
    rw [← bl_length] at hcv
    go_simp
    exact hK.out _ _ hb3 ⟨A, c, rfl, hr⟩
  · intro a w2 hb hs K hK
    repeat (intro _)
    refine ⟨?_⟩
    have h1 : a.tmps[1]?.getD undef = .pointer (some ⟨w.heap.size, 0, none⟩) := hs 1 (by kernel_rfl)
    obtain ⟨c0, c1, c2, c3, c4, c5, c6, c7, c8, c9, c10, c11, c12, c13, c14, c15⟩ := HH.out w2 (hdr.out.trans (hb.mono hdr.out.size))
    go_simp
    exact hK.out _ _ (Below.refl _ _) rfl
  · intro a w2 hb hs K hK
    repeat (intro _)
    refine ⟨?_⟩
    have h13 : a.tmps[13]?.getD undef = .agg #[.int .u8 h.s0, .int .u8 h.s1, .int .u8 h.s2, .int .u8 h.s3, .int .u8 h.s4, .int .u8 h.s5, .int .u8 h.s6, .int .u8 h.s7, .int .i64 h.K, .int .i64 h.M, .int .i64 h.B, .string h.key, .int .i64 h.size, .int .i64 h.idx, .int .i64 h.ep, .int .i64 h.ct] := by assumption
    go_simp
    refine (headsum_any h w2 hB HE).mono ?_
    rintro e w3 ⟨rfl, hb3⟩
    exact hK.out _ _ hb3 rfl
  · intro a w2 hb hs K hK
    repeat (intro _)
    refine ⟨?_⟩
    have h14 : a.tmps[14]?.getD undef = .int .i64 (sum2 h : Nat) := by assumption
    go_simp
    refine (low_int (sum2 h : Nat) 4 w2 (by omega) (by have := hs12; omega) (by omega)).mono ?_
    rintro e w3 ⟨o, rfl, hO, hb3⟩
    exact hK.out _ _ hb3 hO.isRL
  · intro a w2 hb hs K hK
    repeat (intro _)
    refine ⟨?_⟩
    obtain ⟨A6, c6, h6, r6⟩ : IsRL (fixL h) (a.tmps[6]?.getD undef) w2 := by assumption
    obtain ⟨A9, c9, h9, r9⟩ : IsRL (le 4 (sum1 h)) (a.tmps[9]?.getD undef) w2 := by assumption
    obtain ⟨A12, c12, h12, r12⟩ : IsRL (bl h.key) (a.tmps[12]?.getD undef) w2 := by assumption
    obtain ⟨A15, c15, h15, r15⟩ : IsRL (le 4 (sum2 h)) (a.tmps[15]?.getD undef) w2 := by assumption
    go_simp
    exact hK.out _ _ ((Below.refl _ _).alloc (Nat.le_refl _) _) (isRLL_new (LL := [fixL h, le 4 (sum1 h), bl h.key, le 4 (sum2 h)]) ⟨⟨_, _, rfl, r6⟩, ⟨_, _, rfl, r9⟩, ⟨_, _, rfl, r12⟩, ⟨_, _, rfl, r15⟩, trivial⟩ rfl)
  · intro a w2 hb hs K hK
    repeat (intro _)
    refine ⟨?_⟩
    obtain ⟨A16, c16, h16, r16⟩ : IsRLL ([fixL h, le 4 (sum1 h), bl h.key, le 4 (sum2 h)]) (a.tmps[16]?.getD undef) w2 := by assumption
    go_simp
    refine (join_any A16 c16 ([fixL h, le 4 (sum1 h), bl h.key, le 4 (sum2 h)]) w2 (by simp) (by rw [head_flat]; rw [headL_length]; omega) r16).mono ?_
    rintro e w3 ⟨o, rfl, hO, hb3⟩
    rw [head_flat] at hO
    exact hK.out _ _ hb3 (hO.mono (by rw [hB0]; exact (hdr.out.trans (hb.mono hdr.out.size)).size))
  · intro a w2 hb hs K hK
    repeat (intro _)
    refine ⟨?_⟩
    have h17 : IsOwnB B0 (headL h) (a.tmps[17]?.getD undef) w2 := by assumption
    go_simp
    exact hK.out _ _ (Below.refl _ _) h17
  intro v0 f0 v1 f1 v2 f2 v3 f3 v4 f4 v5 f5 v6 f6 v7 f7 v8 f8 v9 f9 v10 f10 v11 f11 v12 f12
  refine NoPanic.normal ?_
  simp only [Act.put, List.setIfInBounds_toArray, List.set_cons_zero, List.set_cons_succ]
  go_wp2
  go_ret
  exact ⟨_, rfl, OwnB.mono f12 hB1, hbA.trans (hbE.mono hbA.size)⟩
set_option maxRecDepth 20000 in
set_option maxHeartbeats 1000000 in
theorem rframe_any (s j : Nat) (A : Option Addr) (c : Nat) (l : List Nat) (w : World) (hs : s < 4294967296) (hj : j < 4294967296) (hl : ∀ x ∈ l, x < 256) (hn : l.length ≤ 140737488350000) (hA : RL w A l) :
    Calls Try.prog 66 #[.int .i64 (s : Int), .int .i64 (j : Int), .slice A l.length c] w fun e w' => ∃ o, e = .returned o ∧ OwnB w' w.heap.size o (frameL s j l) ∧ Below w.heap.size w w' := by
  have hbl := blkL_length s j l
  have hbx := blkL_lt (s := s) (j := j) hl
  have hsb := sumB_lt (s := s) (j := j) hl
  have HF1 := Lib.hid (show ([le 4 s, le 4 j, l] : List (List Nat)).flatten = blkL s j l by simp [blkL])
  have HF2 := Lib.hid (show ([l, le 4 (sumB s j l)] : List (List Nat)).flatten = frameL s j l by simp [frameL])
  have hfl := frameL_length s j l
  have HC := Lib.hid (blk_crc s j l)
  have HBX := Lib.hid hbx; have HA := Lib.hid hA
  have HN1 := Lib.hid (show ([le 4 s, le 4 j, l] : List (List Nat)).flatten.length ≤ 140737488355000 by rw [HF1.out]; omega)
  have HN2 := Lib.hid (show ([l, le 4 (sumB s j l)] : List (List Nat)).flatten.length ≤ 140737488355000 by rw [HF2.out]; omega)
  have HN3 := Lib.hid (show (blkL s j l).length ≤ 140737488355328 by omega)
  clear hbl hbx hfl hl hA
  generalize sumB s j l = sb at *
  generalize blkL s j l = bk at *
  generalize frameL s j l = fr at *
  go_enter Try.func66, Try.ntmps66
  go_wp2_with fail
  refine (low_int (s : Int) 4 w (by omega) (by omega) (by omega)).mono ?_
  rintro e w1 ⟨o1, rfl, hO1, hb1⟩
  rw [show (s : Int).toNat = s from rfl] at hO1
  obtain ⟨A1, q1, e1, r1⟩ := hO1.isRL
  subst e1
  have hz1 := hb1.size
  have HR1 := Lib.hid r1; have HB1 := Lib.hid hb1
  clear hO1 r1 hb1
  go_wp2_with fail
  refine (low_int (j : Int) 4 w1 (by omega) (by omega) (by omega)).mono ?_
  rintro e w2 ⟨o2, rfl, hO2, hb2⟩
  rw [show (j : Int).toNat = j from rfl] at hO2
  obtain ⟨A2, q2, e2, r2⟩ := hO2.isRL
  subst e2
  have r1' := HR1.out.below hb2
  have hbB := HB1.out.trans (hb2.mono hz1)
  have rA := HA.out.below hbB
  have HRR := Lib.hid (rll_new (w := w2) (vs := [.slice A1 (le 4 s).length q1, .slice A2 (le 4 j).length q2, .slice A l.length c]) (LL := [le 4 s, le 4 j, l]) ⟨⟨_, _, rfl, r1'⟩, ⟨_, _, rfl, r2⟩, ⟨_, _, rfl, rA⟩, trivial⟩)
  have HBC := Lib.hid (hbB.alloc hbB.size (.cells #[.slice A1 (le 4 s).length q1, .slice A2 (le 4 j).length q2, .slice A l.length c] 47))
  clear r1' r2 rA hbB hO2 hb2 hz1 HR1 HB1
  go_wp2_with fail
  refine (join_any _ 3 [le 4 s, le 4 j, l] _ (by simp) HN1.out HRR.out).mono ?_
  rintro e w3 ⟨o3, rfl, hO3, hb3⟩
  rw [HF1.out] at hO3
  obtain ⟨A3, q3, e3, r3⟩ := hO3.isRL
  subst e3
  have HBD := Lib.hid (HBC.out.trans (hb3.mono HBC.out.size))
  have HR3 := Lib.hid r3
  clear hO3 hb3 HBC HRR r3
  go_wp2_with fail
  refine (rsum_any A3 q3 bk w3 HBX.out HN3.out HR3.out).mono ?_
  rintro e w4 ⟨rfl, rfl⟩
  rw [HC.out]
  clear HR3
  go_wp2_with fail
  refine (low_int (sb : Nat) 4 w3 (by omega) (by omega) (by omega)).mono ?_
  rintro e w5 ⟨o5, rfl, hO5, hb5⟩
  rw [show (sb : Int).toNat = sb from rfl] at hO5
  obtain ⟨A5, q5, e5, r5⟩ := hO5.isRL
  subst e5
  have hbE := HBD.out.trans (hb5.mono HBD.out.size)
  have rA := HA.out.below hbE
  have HRR := Lib.hid (rll_new (w := w5) (vs := [.slice A l.length c, .slice A5 (le 4 sb).length q5]) (LL := [l, le 4 sb]) ⟨⟨_, _, rfl, rA⟩, ⟨_, _, rfl, r5⟩, trivial⟩)
  have HBF := Lib.hid (hbE.alloc hbE.size (.cells #[.slice A l.length c, .slice A5 (le 4 sb).length q5] 47))
  clear hO5 hb5 r5 rA hbE HBD
  go_wp2_with fail
  refine (join_any _ 2 [l, le 4 sb] _ (by simp) HN2.out HRR.out).mono ?_
  rintro e w6 ⟨o6, rfl, hO6, hb6⟩
  rw [HF2.out] at hO6
  have HO := Lib.hid (hO6.mono HBF.out.size)
  have HB := Lib.hid (HBF.out.trans (hb6.mono HBF.out.size))
  clear hO6 hb6 HBF HRR
  go_wp2
  go_ret
  exact ⟨_, rfl, HO.out, HB.out⟩
end Go.Proofs.Ytbioanbokbhmgaa
