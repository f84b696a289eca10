/- sameShards: the walk. Conditions: shards that memory bears. -/
import Derived.Test.YtjaaldandgfkgaaSdW
import Derived.Test.YtjaaldandgfkgaaSplP
namespace Go.Proofs.Ytjaaldandgfkgaa
open Go.RowKit

set_option maxRecDepth 100000 in
set_option maxHeartbeats 4000000 in
theorem sameShards_any (X1 X2 : Option Addr) (n c1 c2 : Nat) (H : Nat → Hd) (BL : Nat → List (List Nat)) (w : World) (hn : n ≤ 1000000) (hW : ∀ i, i < n → HdW (H i)) (hX : ∀ i, i < n → ∀ l ∈ BL i, ∀ x ∈ l, x < 256) (hL : ∀ i, i < n → (BL i).length ≤ 1000000000000) (h1 : RSd w X1 n H BL) (h2 : RSd w X2 n H BL) :
    Calls Try.prog 23 #[.slice X1 n c1, .slice X2 n c2] w fun e w' => e = .returned (.bool true) ∧ Below w.heap.size w w' := by
  obtain ⟨S1, C1, h1a, h1b⟩ := h1
  obtain ⟨S2, C2, h2a, h2b⟩ := h2
  have HA1 := Lib.hid h1a; have HB1 := Lib.hid h1b; have HA2 := Lib.hid h2a; have HB2 := Lib.hid h2b
  have HW := Lib.hid hW; have HX := Lib.hid hX; have HL := Lib.hid hL
  clear h1a h1b h2a h2b hW hX hL
  go_enter Try.func23, Try.ntmps23
  go_wp2
  go_loopg [5] n (fun gk i wr => ∃ k : Nat, k ≤ n ∧ gk = n - k ∧ i = .int .i64 k ∧ Below w.heap.size w wr)
  case atStart => exact ⟨0, Nat.zero_le _, rfl, rfl, Below.refl _ _⟩
  case round =>
    obtain ⟨k, hk, rfl, rfl, hb⟩ := hrel
    have HB := Lib.hid hb
    clear hb
    by_cases hlt : k < n
    · obtain ⟨b1, o1, rfl⟩ := HA1.out.ex_ hlt
      obtain ⟨b2, o2, rfl⟩ := HA2.out.ex_ hlt
      obtain ⟨Z, hZ⟩ : ∃ Z, Z = H k := ⟨_, rfl⟩
      have HZ : Hid (HdW Z) := Lib.hid (by rw [hZ]; exact HW.out k hlt)
      obtain ⟨m, hm⟩ : ∃ m, m = (BL k).length := ⟨_, rfl⟩
      obtain ⟨A1, hA1⟩ : ∃ A, A = S1 k := ⟨_, rfl⟩
      obtain ⟨A2, hA2⟩ : ∃ A, A = S2 k := ⟨_, rfl⟩
      obtain ⟨d1, hd1⟩ : ∃ d, d = C1 k := ⟨_, rfl⟩
      obtain ⟨d2, hd2⟩ : ∃ d, d = C2 k := ⟨_, rfl⟩
      have HC1 : Hid (∀ w', Below wr.heap.size wr w' → (∀ j v, (#[.int .u8 Z.s0, .int .u8 Z.s1, .int .u8 Z.s2, .int .u8 Z.s3, .int .u8 Z.s4, .int .u8 Z.s5, .int .u8 Z.s6, .int .u8 Z.s7, .int .i64 Z.K, .int .i64 Z.M, .int .i64 Z.B, .string Z.key, .int .i64 Z.size, .int .i64 Z.idx, .int .i64 Z.ep, .int .i64 Z.ct] : Array Value).toList[j]? = some v → w'.cell? ((⟨b1, o1 + k * 17, none⟩ : Addr).add j) = some v) ∧ w'.cell? ⟨b1, o1 + k * 17 + 16, none⟩ = some (.slice A1 m d1)) := Lib.hid fun w' hb => by
        have h1 := HA1.out.keep (HB.out.trans (hb.mono HB.out.size))
        rw [hZ, hA1, hm, hd1]
        exact ⟨h1.head hlt, h1.list hlt⟩
      have HC2 : Hid (∀ w', Below wr.heap.size wr w' → (∀ j v, (#[.int .u8 Z.s0, .int .u8 Z.s1, .int .u8 Z.s2, .int .u8 Z.s3, .int .u8 Z.s4, .int .u8 Z.s5, .int .u8 Z.s6, .int .u8 Z.s7, .int .i64 Z.K, .int .i64 Z.M, .int .i64 Z.B, .string Z.key, .int .i64 Z.size, .int .i64 Z.idx, .int .i64 Z.ep, .int .i64 Z.ct] : Array Value).toList[j]? = some v → w'.cell? ((⟨b2, o2 + k * 17, none⟩ : Addr).add j) = some v) ∧ w'.cell? ⟨b2, o2 + k * 17 + 16, none⟩ = some (.slice A2 m d2)) := Lib.hid fun w' hb => by
        have h1 := HA2.out.keep (HB.out.trans (hb.mono HB.out.size))
        rw [hZ, hA2, hm, hd2]
        exact ⟨h1.head hlt, h1.list hlt⟩
      have HSM : Hid (∀ w', Below wr.heap.size wr w' → Calls Try.prog 38 #[.slice A1 m d1, .slice A2 m d2] w' fun e w'' => e = .returned (.bool true) ∧ Dr w' w'') := Lib.hid fun w' hb => by
        have h1 := (HB1.out k hlt).1.below (HB.out.trans (hb.mono HB.out.size))
        have h2 := (HB2.out k hlt).1.below (HB.out.trans (hb.mono HB.out.size))
        rw [hm, hA1, hA2]
        exact same_any _ _ _ _ _ _ _ w' (by have := HL.out k hlt; omega) (fun i hi j hj => getD_lt (HX.out k hlt _ (getD_memL hi)) hj) (rdm_rll h1) (rdm_rll h2)
      clear hZ hm hA1 hA2 hd1 hd2
      have hlt0 : (k : Int) < (n : Int) := by omega
      go_wp2_with fail
      refine wp_region_factsG [.is (.slice (some ⟨b1, o1, none⟩) n c1), .is (.int .i64 (k : Int)), .is (.pointer (some ⟨b1, o1 + k * 17, none⟩)), .is (.pointer (some ⟨b1, o1 + k * 17, none⟩)), .is (.agg #[.int .u8 Z.s0, .int .u8 Z.s1, .int .u8 Z.s2, .int .u8 Z.s3, .int .u8 Z.s4, .int .u8 Z.s5, .int .u8 Z.s6, .int .u8 Z.s7, .int .i64 Z.K, .int .i64 Z.M, .int .i64 Z.B, .string Z.key, .int .i64 Z.size, .int .i64 Z.idx, .int .i64 Z.ep, .int .i64 Z.ct]), .is (.slice (some ⟨b2, o2, none⟩) n c2), .is (.int .i64 (k : Int)), .is (.pointer (some ⟨b2, o2 + k * 17, none⟩)), .is (.pointer (some ⟨b2, o2 + k * 17, none⟩)), .is (.agg #[.int .u8 Z.s0, .int .u8 Z.s1, .int .u8 Z.s2, .int .u8 Z.s3, .int .u8 Z.s4, .int .u8 Z.s5, .int .u8 Z.s6, .int .u8 Z.s7, .int .i64 Z.K, .int .i64 Z.M, .int .i64 Z.B, .string Z.key, .int .i64 Z.size, .int .i64 Z.idx, .int .i64 Z.ep, .int .i64 Z.ct]), .is (.bool false), .is (.bool false), .is (.slice (some ⟨b1, o1, none⟩) n c1), .is (.int .i64 (k : Int)), .is (.pointer (some ⟨b1, o1 + k * 17, none⟩)), .is (.pointer (some ⟨b1, o1 + k * 17 + 16, none⟩)), .is (.slice A1 m d1), .is (.slice (some ⟨b2, o2, none⟩) n c2), .is (.int .i64 (k : Int)), .is (.pointer (some ⟨b2, o2 + k * 17, none⟩)), .is (.pointer (some ⟨b2, o2 + k * 17 + 16, none⟩)), .is (.slice A2 m d2), .is (.bool true), .is (.bool false), .is (.bool false)] mixed (by kernel_rfl) (fun hdr => ⟨?_, ?_, ?_, ?_, ?_, ?_, ?_, ?_, ?_, ?_, ?_, ?_, ?_, ?_, ?_, ?_, ?_, ?_, ?_, ?_, ?_, ?_, ?_, ?_, ?_, trivial⟩) (fun wE hbE => ?_)
      · intro a w2 hb hs K hK
        repeat (intro _)
        refine ⟨?_⟩
        have h0 : a.tmps[0]?.getD undef = .slice (some ⟨b1, o1, none⟩) n c1 := hs 0 (by kernel_rfl)
        rw [if_pos (by rfl)]
        go_simp
        exact hK.out _ _ (Below.refl _ _) rfl
      · intro a w2 hb hs K hK
        repeat (intro _)
        refine ⟨?_⟩
        have h5 : a.tmps[5]?.getD undef = .int .i64 (k : Int) := hs 5 (by kernel_rfl)
        rw [if_pos (by rfl)]
        go_simp
        exact hK.out _ _ (Below.refl _ _) rfl
      · intro a w2 hb hs K hK
        repeat (intro _)
        refine ⟨?_⟩
        have h17 : a.tmps[17]?.getD undef = .slice (some ⟨b1, o1, none⟩) n c1 := by assumption
        have h18 : a.tmps[18]?.getD undef = .int .i64 (k : Int) := by assumption
        rw [if_pos (by rfl)]
        go_simp
        exact hK.out _ _ (Below.refl _ _) rfl
      · intro a w2 hb hs K hK
        repeat (intro _)
        refine ⟨?_⟩
        have h19 : a.tmps[19]?.getD undef = .pointer (some ⟨b1, o1 + k * 17, none⟩) := by assumption
        rw [if_pos (by rfl)]
        go_simp
        exact hK.out _ _ (Below.refl _ _) rfl
      · intro a w2 hb hs K hK
        repeat (intro _)
        refine ⟨?_⟩
        have h20 : a.tmps[20]?.getD undef = .pointer (some ⟨b1, o1 + k * 17, none⟩) := by assumption
        rw [if_pos (by rfl)]
        exact wp_loadAgg 42 (.tmp 20) rfl ⟨b1, o1 + k * 17, none⟩ ((slot_eval a 20).trans h20) #[.int .u8 Z.s0, .int .u8 Z.s1, .int .u8 Z.s2, .int .u8 Z.s3, .int .u8 Z.s4, .int .u8 Z.s5, .int .u8 Z.s6, .int .u8 Z.s7, .int .i64 Z.K, .int .i64 Z.M, .int .i64 Z.B, .string Z.key, .int .i64 Z.size, .int .i64 Z.idx, .int .i64 Z.ep, .int .i64 Z.ct] _ (HC1.out w2 (hdr.out.trans (hb.mono hdr.out.size))).1 Try.underlying42 rfl info_H (hK.out _ _ (Below.refl _ _) rfl)
      · intro a w2 hb hs K hK
        repeat (intro _)
        refine ⟨?_⟩
        have h1 : a.tmps[1]?.getD undef = .slice (some ⟨b2, o2, none⟩) n c2 := hs 1 (by kernel_rfl)
        rw [if_pos (by rfl)]
        go_simp
        exact hK.out _ _ (Below.refl _ _) rfl
      · intro a w2 hb hs K hK
        repeat (intro _)
        refine ⟨?_⟩
        have h5 : a.tmps[5]?.getD undef = .int .i64 (k : Int) := hs 5 (by kernel_rfl)
        rw [if_pos (by rfl)]
        go_simp
        exact hK.out _ _ (Below.refl _ _) rfl
      · intro a w2 hb hs K hK
        repeat (intro _)
        refine ⟨?_⟩
        have h22 : a.tmps[22]?.getD undef = .slice (some ⟨b2, o2, none⟩) n c2 := by assumption
        have h23 : a.tmps[23]?.getD undef = .int .i64 (k : Int) := by assumption
        rw [if_pos (by rfl)]
        go_simp
        exact hK.out _ _ (Below.refl _ _) rfl
      · intro a w2 hb hs K hK
        repeat (intro _)
        refine ⟨?_⟩
        have h24 : a.tmps[24]?.getD undef = .pointer (some ⟨b2, o2 + k * 17, none⟩) := by assumption
        rw [if_pos (by rfl)]
        go_simp
        exact hK.out _ _ (Below.refl _ _) rfl
      · intro a w2 hb hs K hK
        repeat (intro _)
        refine ⟨?_⟩
        have h25 : a.tmps[25]?.getD undef = .pointer (some ⟨b2, o2 + k * 17, none⟩) := by assumption
        rw [if_pos (by rfl)]
        exact wp_loadAgg 42 (.tmp 25) rfl ⟨b2, o2 + k * 17, none⟩ ((slot_eval a 25).trans h25) #[.int .u8 Z.s0, .int .u8 Z.s1, .int .u8 Z.s2, .int .u8 Z.s3, .int .u8 Z.s4, .int .u8 Z.s5, .int .u8 Z.s6, .int .u8 Z.s7, .int .i64 Z.K, .int .i64 Z.M, .int .i64 Z.B, .string Z.key, .int .i64 Z.size, .int .i64 Z.idx, .int .i64 Z.ep, .int .i64 Z.ct] _ (HC2.out w2 (hdr.out.trans (hb.mono hdr.out.size))).1 Try.underlying42 rfl info_H (hK.out _ _ (Below.refl _ _) rfl)
      · intro a w2 hb hs K hK
        repeat (intro _)
        refine ⟨?_⟩
        have h21 : a.tmps[21]?.getD undef = .agg #[.int .u8 Z.s0, .int .u8 Z.s1, .int .u8 Z.s2, .int .u8 Z.s3, .int .u8 Z.s4, .int .u8 Z.s5, .int .u8 Z.s6, .int .u8 Z.s7, .int .i64 Z.K, .int .i64 Z.M, .int .i64 Z.B, .string Z.key, .int .i64 Z.size, .int .i64 Z.idx, .int .i64 Z.ep, .int .i64 Z.ct] := by assumption
        have h26 : a.tmps[26]?.getD undef = .agg #[.int .u8 Z.s0, .int .u8 Z.s1, .int .u8 Z.s2, .int .u8 Z.s3, .int .u8 Z.s4, .int .u8 Z.s5, .int .u8 Z.s6, .int .u8 Z.s7, .int .i64 Z.K, .int .i64 Z.M, .int .i64 Z.B, .string Z.key, .int .i64 Z.size, .int .i64 Z.idx, .int .i64 Z.ep, .int .i64 Z.ct] := by assumption
        rw [if_pos (by rfl)]
        exact wp_neqAgg 42 (.tmp 21) (.tmp 26) rfl #[.int .u8 Z.s0, .int .u8 Z.s1, .int .u8 Z.s2, .int .u8 Z.s3, .int .u8 Z.s4, .int .u8 Z.s5, .int .u8 Z.s6, .int .u8 Z.s7, .int .i64 Z.K, .int .i64 Z.M, .int .i64 Z.B, .string Z.key, .int .i64 Z.size, .int .i64 Z.idx, .int .i64 Z.ep, .int .i64 Z.ct] #[.int .u8 Z.s0, .int .u8 Z.s1, .int .u8 Z.s2, .int .u8 Z.s3, .int .u8 Z.s4, .int .u8 Z.s5, .int .u8 Z.s6, .int .u8 Z.s7, .int .i64 Z.K, .int .i64 Z.M, .int .i64 Z.B, .string Z.key, .int .i64 Z.size, .int .i64 Z.idx, .int .i64 Z.ep, .int .i64 Z.ct] ((slot_eval a 21).trans h21) ((slot_eval a 26).trans h26) guard_H true (head_same HZ.out w2) (hK.out _ _ (Below.refl _ _) rfl)
      · intro a w2 hb hs K hK
        repeat (intro _)
        refine ⟨?_⟩
        have h27 : a.tmps[27]?.getD undef = .bool false := by assumption
        rw [if_pos (by rfl)]
        go_simp
        exact hK.out _ _ (Below.refl _ _) rfl
      · intro a w2 hb hs K hK
        repeat (intro _)
        refine ⟨?_⟩
        have h0 : a.tmps[0]?.getD undef = .slice (some ⟨b1, o1, none⟩) n c1 := hs 0 (by kernel_rfl)
        have hgd : a.tmps[28]?.getD undef = .bool false := by assumption
        rw [if_pos (wanted_yes (j := 11) (b := false) rfl rfl rfl hgd)]
        go_simp
        exact hK.out _ _ (Below.refl _ _) rfl
      · intro a w2 hb hs K hK
        repeat (intro _)
        refine ⟨?_⟩
        have h5 : a.tmps[5]?.getD undef = .int .i64 (k : Int) := hs 5 (by kernel_rfl)
        have hgd : a.tmps[28]?.getD undef = .bool false := by assumption
        rw [if_pos (wanted_yes (j := 11) (b := false) rfl rfl rfl hgd)]
        go_simp
        exact hK.out _ _ (Below.refl _ _) rfl
      · intro a w2 hb hs K hK
        repeat (intro _)
        refine ⟨?_⟩
        have h29 : a.tmps[29]?.getD undef = .slice (some ⟨b1, o1, none⟩) n c1 := by assumption
        have h30 : a.tmps[30]?.getD undef = .int .i64 (k : Int) := by assumption
        have hgd : a.tmps[28]?.getD undef = .bool false := by assumption
        rw [if_pos (wanted_yes (j := 11) (b := false) rfl rfl rfl hgd)]
        go_simp
        exact hK.out _ _ (Below.refl _ _) rfl
      · intro a w2 hb hs K hK
        repeat (intro _)
        refine ⟨?_⟩
        have h31 : a.tmps[31]?.getD undef = .pointer (some ⟨b1, o1 + k * 17, none⟩) := by assumption
        have hgd : a.tmps[28]?.getD undef = .bool false := by assumption
        rw [if_pos (wanted_yes (j := 11) (b := false) rfl rfl rfl hgd)]
        go_simp
        exact hK.out _ _ (Below.refl _ _) rfl
      · intro a w2 hb hs K hK
        repeat (intro _)
        refine ⟨?_⟩
        have h32 : a.tmps[32]?.getD undef = .pointer (some ⟨b1, o1 + k * 17 + 16, none⟩) := by assumption
        have hgd : a.tmps[28]?.getD undef = .bool false := by assumption
        rw [if_pos (wanted_yes (j := 11) (b := false) rfl rfl rfl hgd)]
        have hcc := (HC1.out w2 (hdr.out.trans (hb.mono hdr.out.size))).2
        go_simp
        exact hK.out _ _ (Below.refl _ _) rfl
      · intro a w2 hb hs K hK
        repeat (intro _)
        refine ⟨?_⟩
        have h1 : a.tmps[1]?.getD undef = .slice (some ⟨b2, o2, none⟩) n c2 := hs 1 (by kernel_rfl)
        have hgd : a.tmps[28]?.getD undef = .bool false := by assumption
        rw [if_pos (wanted_yes (j := 11) (b := false) rfl rfl rfl hgd)]
        go_simp
        exact hK.out _ _ (Below.refl _ _) rfl
      · intro a w2 hb hs K hK
        repeat (intro _)
        refine ⟨?_⟩
        have h5 : a.tmps[5]?.getD undef = .int .i64 (k : Int) := hs 5 (by kernel_rfl)
        have hgd : a.tmps[28]?.getD undef = .bool false := by assumption
        rw [if_pos (wanted_yes (j := 11) (b := false) rfl rfl rfl hgd)]
        go_simp
        exact hK.out _ _ (Below.refl _ _) rfl
      · intro a w2 hb hs K hK
        repeat (intro _)
        refine ⟨?_⟩
        have h34 : a.tmps[34]?.getD undef = .slice (some ⟨b2, o2, none⟩) n c2 := by assumption
        have h35 : a.tmps[35]?.getD undef = .int .i64 (k : Int) := by assumption
        have hgd : a.tmps[28]?.getD undef = .bool false := by assumption
        rw [if_pos (wanted_yes (j := 11) (b := false) rfl rfl rfl hgd)]
        go_simp
        exact hK.out _ _ (Below.refl _ _) rfl
      · intro a w2 hb hs K hK
        repeat (intro _)
        refine ⟨?_⟩
        have h36 : a.tmps[36]?.getD undef = .pointer (some ⟨b2, o2 + k * 17, none⟩) := by assumption
        have hgd : a.tmps[28]?.getD undef = .bool false := by assumption
        rw [if_pos (wanted_yes (j := 11) (b := false) rfl rfl rfl hgd)]
        go_simp
        exact hK.out _ _ (Below.refl _ _) rfl
      · intro a w2 hb hs K hK
        repeat (intro _)
        refine ⟨?_⟩
        have h37 : a.tmps[37]?.getD undef = .pointer (some ⟨b2, o2 + k * 17 + 16, none⟩) := by assumption
        have hgd : a.tmps[28]?.getD undef = .bool false := by assumption
        rw [if_pos (wanted_yes (j := 11) (b := false) rfl rfl rfl hgd)]
        have hcc := (HC2.out w2 (hdr.out.trans (hb.mono hdr.out.size))).2
        go_simp
        exact hK.out _ _ (Below.refl _ _) rfl
      · intro a w2 hb hs K hK
        repeat (intro _)
        refine ⟨?_⟩
        have h33 : a.tmps[33]?.getD undef = .slice A1 m d1 := by assumption
        have h38 : a.tmps[38]?.getD undef = .slice A2 m d2 := by assumption
        have hgd : a.tmps[28]?.getD undef = .bool false := by assumption
        rw [if_pos (wanted_yes (j := 11) (b := false) rfl rfl rfl hgd)]
        go_simp
        refine (HSM.out w2 (hdr.out.trans (hb.mono hdr.out.size))).mono ?_
        rintro e w3 ⟨rfl, hd⟩
        exact hK.out _ _ (hd.below _) rfl
      · intro a w2 hb hs K hK
        repeat (intro _)
        refine ⟨?_⟩
        have h39 : a.tmps[39]?.getD undef = .bool true := by assumption
        have hgd : a.tmps[28]?.getD undef = .bool false := by assumption
        rw [if_pos (wanted_yes (j := 11) (b := false) rfl rfl rfl hgd)]
        go_simp
        exact hK.out _ _ (Below.refl _ _) rfl
      · intro a w2 hb hs K hK
        repeat (intro _)
        refine ⟨?_⟩
        have h28 : a.tmps[28]?.getD undef = .bool false := by assumption
        have h40 : a.tmps[40]?.getD undef = .bool false := by assumption
        rw [if_pos (by rfl)]
        go_simp
        exact hK.out _ _ (Below.refl _ _) rfl
      intro v0 f0 v1 f1 v2 f2 v3 f3 v4 f4 v5 f5 v6 f6 v7 f7 v8 f8 v9 f9 v10 f10 v11 f11 v12 f12 v13 f13 v14 f14 v15 f15 v16 f16 v17 f17 v18 f18 v19 f19 v20 f20 v21 f21 v22 f22 v23 f23 v24 f24
      refine NoPanic.normal ?_
      simp only [Act.put, List.setIfInBounds_toArray, List.set_cons_zero, List.set_cons_succ]
      obtain rfl : v24 = .bool false := f24
      clear f0 f1 f2 f3 f4 f5 f6 f7 f8 f9 f10 f11 f12 f13 f14 f15 f16 f17 f18 f19 f20 f21 f22 f23
      have HBn := Lib.hid (HB.out.trans (hbE.mono HB.out.size))
      clear hbE
      go_wp2
      go_roundg (n - (k + 1))
      case measure => omega
      case rel => exact ⟨k + 1, by omega, rfl, by go_num, HBn.out⟩
    · obtain rfl : n = k := by omega
      go_wp2
      go_ret
      exact ⟨rfl, HB.out⟩
end Go.Proofs.Ytjaaldandgfkgaa

/- Heads and shards of Split: bounds. Conditions: as the theorems have them. -/
namespace Go.Proofs.Ytjaaldandgfkgaa
open Go.RowKit

theorem i64_wf {n : Int} (h0 : -9223372036854775808 ≤ n) (h1 : n ≤ 9223372036854775807) : (Lit.int .i64 n).wf = true := by simp [Lit.wf, IntKind.min, IntKind.max, IntKind.signed, IntKind.bits]; omega
theorem hdw_spl {h : Hd} (H : HdW h) (n i : Nat) (hn : n ≤ 140737488351232) (hi : i ≤ 1000000) : HdW { h with size := (n : Int), idx := (i : Int) } := by
  obtain ⟨w0, w1, w2, w3, w4, w5, w6, w7, w8, w9, w10, w11, w12, w13, w14, w15⟩ := H
  exact ⟨w0, w1, w2, w3, w4, w5, w6, w7, w8, w9, w10, i64_wf (n := (n : Int)) (by omega) (by omega), i64_wf (n := (i : Int)) (by omega) (by omega), w13, w14, w15⟩
theorem spl_lt (K B : Nat) (l : List Nat) (i : Nat) : ∀ y ∈ spL K B l i, ∀ x ∈ y, x < 256 := fun y hy => by
  unfold spL spT at hy
  obtain ⟨j, _, rfl⟩ := List.mem_map.1 hy
  exact spB_lt i j
theorem spl_len {h : Hd} (l : List Nat) (e : checkE h = 0) (hs : h.size = (l.length : Int)) (i : Nat) : (spL h.K.toNat h.B.toNat l i).length ≤ 4096 := by
  unfold spL
  rw [spT_length]
  obtain ⟨_, _, _, z, _⟩ := check_facts e
  have := sizeN_le h.K h.M h.B h.size
  unfold sizeN at this
  rw [if_pos z, hs] at this
  exact this
end Go.Proofs.Ytjaaldandgfkgaa
