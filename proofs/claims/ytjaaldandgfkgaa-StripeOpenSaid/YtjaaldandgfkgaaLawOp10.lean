/- StripeOpen: the law's walk. Conditions: an object that memory bears. -/
import Derived.Test.YtjaaldandgfkgaaOw10
namespace Go.Proofs.Ytjaaldandgfkgaa
open Go.RowKit

set_option maxRecDepth 100000 in
set_option maxHeartbeats 16000000 in
theorem lawOpn10 (p : Pln) (A0 : Option Addr) (cd : Nat) (l0 : List Nat) (Pk : Option Addr) (np cp : Nat) (pi : Nat → Int) (Y : Option Addr) (ly : List Nat) (cY : Nat) (w : World) (hw : p.Wf) (hA : RL w A0 l0) (hlc : l0.length ≤ cd) (hl : l0.length ≤ 140737488351232) (hX : ∀ x ∈ l0, x < 256) (hP : Rd w Pk np (fun i => .int .i64 (pi i))) (hnp : np * 8 ≤ 140737488351232)
    (hY : RL w Y ly) (hYX : ∀ x ∈ ly, x < 256) (hyl : ly.length ≤ 140737488351232) :
    Calls Try.prog 10 #[.agg #[.int .i64 p.K, .int .i64 p.M, .int .i64 p.B, .int .u8 p.s0, .int .u8 p.s1, .int .u8 p.s2, .int .u8 p.s3, .int .u8 p.s4, .int .u8 p.s5, .int .u8 p.s6, .int .u8 p.s7, .string p.key, .int .i64 p.ep, .int .i64 p.ct, .slice A0 l0.length cd, .slice Pk np cp], .slice Y ly.length cY] w fun e w' => e = .returned (.bool true) ∧ Below w.heap.size w w' := by
  have HY := Lib.hid hY; have HYX := Lib.hid hYX
  obtain ⟨ny, hny⟩ : ∃ ny, ny = ly.length := ⟨_, rfl⟩
  have HNY := Lib.hid hny
  rw [← hny] at hyl ⊢
  clear hY hYX hny
  obtain ⟨nd, hnd⟩ : ∃ nd, nd = l0.length := ⟨_, rfl⟩
  have HND := Lib.hid hnd
  have HA := Lib.hid hA; have HX := Lib.hid hX; have HPI := Lib.hid hP; have HWF := Lib.hid hw
  rw [← hnd] at hl hlc ⊢
  clear hA hX hP hw hnd
  have HBX0 : Hid ((w.alloc (.cells #[.int .i64 p.K, .int .i64 p.M, .int .i64 p.B, .int .u8 p.s0, .int .u8 p.s1, .int .u8 p.s2, .int .u8 p.s3, .int .u8 p.s4, .int .u8 p.s5, .int .u8 p.s6, .int .u8 p.s7, .string p.key, .int .i64 p.ep, .int .i64 p.ct, .slice A0 nd cd, .slice Pk np cp] 64)).heap[w.heap.size]? = some (.cells #[.int .i64 p.K, .int .i64 p.M, .int .i64 p.B, .int .u8 p.s0, .int .u8 p.s1, .int .u8 p.s2, .int .u8 p.s3, .int .u8 p.s4, .int .u8 p.s5, .int .u8 p.s6, .int .u8 p.s7, .string p.key, .int .i64 p.ep, .int .i64 p.ct, .slice A0 nd cd, .slice Pk np cp] 64 (0, 0))) := Lib.hid (heap_alloc_new w _)
  have HB0 : Hid (Below w.heap.size w (w.alloc (.cells #[.int .i64 p.K, .int .i64 p.M, .int .i64 p.B, .int .u8 p.s0, .int .u8 p.s1, .int .u8 p.s2, .int .u8 p.s3, .int .u8 p.s4, .int .u8 p.s5, .int .u8 p.s6, .int .u8 p.s7, .string p.key, .int .i64 p.ep, .int .i64 p.ct, .slice A0 nd cd, .slice Pk np cp] 64))) := Lib.hid ((Below.refl _ _).alloc (Nat.le_refl _) _)
  go_enter Try.func10, Try.ntmps10
  go_wp2_with fail
  refine (awake_any _).mono ?_
  rintro e w1 ⟨rfl, hb1⟩
  have HBX1 : Hid (w1.heap[w.heap.size]? = some (.cells #[.int .i64 p.K, .int .i64 p.M, .int .i64 p.B, .int .u8 p.s0, .int .u8 p.s1, .int .u8 p.s2, .int .u8 p.s3, .int .u8 p.s4, .int .u8 p.s5, .int .u8 p.s6, .int .u8 p.s7, .string p.key, .int .i64 p.ep, .int .i64 p.ct, .slice A0 nd cd, .slice Pk np cp] 64 (0, 0))) := Lib.hid ((hb1.block _ (by simp)).trans HBX0.out)
  have HB1 : Hid (Below w.heap.size w w1) := Lib.hid (HB0.out.trans (hb1.mono HB0.out.size))
  have hz1 : w.heap.size < w1.heap.size := (Array.getElem?_eq_some_iff.1 HBX1.out).1
  clear hb1 HBX0 HB0
  obtain ⟨bx, hbx⟩ : ∃ bx, bx = w.heap.size := ⟨_, rfl⟩
  have HBXE := Lib.hid hbx
  rw [← hbx] at HBX1 hz1 ⊢
  clear hbx
  have HFT := Lib.hid (lfit_any p A0 cd l0 (.slice Pk np cp) w1 rfl (by rw [← HND.out]; exact hl) (by rw [← HND.out]; exact hlc) (HA.out.below HB1.out))
  rw [← HND.out] at HFT
  go_wp2_with (refine wpList_loadAt rfl 64 (.tmp 2) rfl ⟨bx, 0, none⟩ rfl #[.int .i64 p.K, .int .i64 p.M, .int .i64 p.B, .int .u8 p.s0, .int .u8 p.s1, .int .u8 p.s2, .int .u8 p.s3, .int .u8 p.s4, .int .u8 p.s5, .int .u8 p.s6, .int .u8 p.s7, .string p.key, .int .i64 p.ep, .int .i64 p.ct, .slice A0 nd cd, .slice Pk np cp] _ (fun j v hv => by rw [add_zero_addr, cell_of_row w1 bx j _ _ (0, 0) HBX1.out]; simpa using hv) Try.underlying64 rfl (by kernel_rfl) ?_)
  refine HFT.out.mono ?_
  rintro e w2 ⟨A1, c1, rfl, hO1, hb2⟩
  obtain ⟨Z0, hZ0⟩ : ∃ Z0, Z0 = fitH p := ⟨_, rfl⟩
  rw [← hZ0]
  obtain ⟨m1, hm1⟩ : ∃ m1, m1 = fitN p nd := ⟨_, rfl⟩
  rw [← hm1] at hO1 ⊢
  obtain ⟨l, hl1⟩ : ∃ l, l = l0.take m1 := ⟨_, rfl⟩
  rw [← hl1] at hO1
  have hml : m1 = l.length := by rw [hl1, List.length_take, ← HND.out, hm1]; have := fitN_le p nd; omega
  have HM1 := Lib.hid hm1
  have HZ0 := Lib.hid hZ0; have HL1 := Lib.hid hl1; have HML := Lib.hid hml
  have HXL : Hid (∀ x ∈ l, x < 256) := Lib.hid fun x hx => HX.out x (by rw [hl1] at hx; exact List.mem_of_mem_take hx)
  have hm1l : m1 ≤ 1048576 := by rw [hm1]; unfold fitN; omega
  have HO1 := Lib.hid hO1
  have HB2 : Hid (Below w.heap.size w w2) := Lib.hid (HB1.out.trans (hb2.mono HB1.out.size))
  have HBX2 : Hid (w2.heap[bx]? = some (.cells #[.int .i64 p.K, .int .i64 p.M, .int .i64 p.B, .int .u8 p.s0, .int .u8 p.s1, .int .u8 p.s2, .int .u8 p.s3, .int .u8 p.s4, .int .u8 p.s5, .int .u8 p.s6, .int .u8 p.s7, .string p.key, .int .i64 p.ep, .int .i64 p.ct, .slice A0 nd cd, .slice Pk np cp] 64 (0, 0))) := Lib.hid ((hb2.block bx hz1).trans HBX1.out)
  have hz2 : bx < w2.heap.size := Nat.lt_of_lt_of_le hz1 hb2.size
  clear hO1 hb2 hZ0 hl1 hm1 hml HFT HBX1 HB1
  have hcm1 : c1 ≤ maxLen := by
    obtain ⟨A', c', e', _, h4, _⟩ := HO1.out.own.rd
    injection e' with _ _ e3
    omega
  have hlc1 : l.length ≤ c1 := by
    obtain ⟨A', c', e', h4, _⟩ := HO1.out.own.rd
    injection e' with _ _ e3
    omega
  have HH3 := Lib.hid (heap_alloc_new w2 (.cells #[.int .u8 Z0.s0, .int .u8 Z0.s1, .int .u8 Z0.s2, .int .u8 Z0.s3, .int .u8 Z0.s4, .int .u8 Z0.s5, .int .u8 Z0.s6, .int .u8 Z0.s7, .int .i64 Z0.K, .int .i64 Z0.M, .int .i64 Z0.B, .string Z0.key, .int .i64 Z0.size, .int .i64 Z0.idx, .int .i64 Z0.ep, .int .i64 Z0.ct] 42))
  have HB23 := Lib.hid ((Below.refl w2.heap.size w2).alloc (Nat.le_refl _) (.cells #[.int .u8 Z0.s0, .int .u8 Z0.s1, .int .u8 Z0.s2, .int .u8 Z0.s3, .int .u8 Z0.s4, .int .u8 Z0.s5, .int .u8 Z0.s6, .int .u8 Z0.s7, .int .i64 Z0.K, .int .i64 Z0.M, .int .i64 Z0.B, .string Z0.key, .int .i64 Z0.size, .int .i64 Z0.idx, .int .i64 Z0.ep, .int .i64 Z0.ct] 42))
  obtain ⟨K1, hK1⟩ : ∃ K1 : Nat, K1 = 1 + fK p := ⟨_, rfl⟩
  obtain ⟨M1, hM1⟩ : ∃ M1 : Nat, M1 = 1 + fM p := ⟨_, rfl⟩
  have hZK : Z0.K = (K1 : Int) := by rw [HZ0.out, hK1]; show (1 + (fK p : Int)) = _; omega
  have hZM : Z0.M = (M1 : Int) := by rw [HZ0.out, hM1]; show (1 + (fM p : Int)) = _; omega
  have HZK0 := Lib.hid hZK; have HZM0 := Lib.hid hZM
  have c8 : (w2.alloc (.cells #[.int .u8 Z0.s0, .int .u8 Z0.s1, .int .u8 Z0.s2, .int .u8 Z0.s3, .int .u8 Z0.s4, .int .u8 Z0.s5, .int .u8 Z0.s6, .int .u8 Z0.s7, .int .i64 Z0.K, .int .i64 Z0.M, .int .i64 Z0.B, .string Z0.key, .int .i64 Z0.size, .int .i64 Z0.idx, .int .i64 Z0.ep, .int .i64 Z0.ct] 42)).cell? ⟨w2.heap.size, 8, none⟩ = some (.int .i64 (K1 : Int)) := by rw [cell_of_row _ w2.heap.size 8 _ _ (0, 0) HH3.out, ← hZK]; rfl
  obtain ⟨r1, hr1⟩ : ∃ r1, r1 = m1 % K1 := ⟨_, rfl⟩
  obtain ⟨m2, hm2⟩ : ∃ m2, m2 = m1 - r1 := ⟨_, rfl⟩
  have hKp : 0 < K1 := by omega
  have HKD : Hid (K1 ∣ m2) := Lib.hid (by rw [hm2, hr1]; exact Nat.dvd_sub_mod m1)
  have hr1l : r1 ≤ m1 := by rw [hr1]; exact Nat.mod_le _ _
  have ht1 : (m1 : Int).tmod (K1 : Int) = (r1 : Int) := by rw [hr1, Int.tmod_eq_emod_of_nonneg (by omega)]; omega
  have ht2 : (m1 : Int) - (r1 : Int) = (m2 : Int) := by omega
  have hK0 : (K1 : Int) ≠ 0 := by omega
  have hm2l : m2 ≤ m1 := by omega
  have hm2c : m2 ≤ c1 := by have := HML.out; omega
  have HM2 : Hid (m2 ≤ fitN p nd) := Lib.hid (by rw [← HM1.out]; exact hm2l)
  have HK1 := Lib.hid hK1; have HMM1 := Lib.hid hM1
  have hs1 : (0 : Int) ≤ (m2 : Int) := by omega
  have hs2 : (m2 : Int) ≤ (c1 : Int) := by omega
  have hw1 : IntKind.i64.wrap (m2 : Int) = (m2 : Int) := i64_small _ (by omega) (by omega)
  clear hm2 hr1 hK1 hM1 hZK hZM
  go_wp2_with (first | (refine wpList_storeNewH rfl (.tmp 5) (.tmp 27) rfl #[.int .u8 Z0.s0, .int .u8 Z0.s1, .int .u8 Z0.s2, .int .u8 Z0.s3, .int .u8 Z0.s4, .int .u8 Z0.s5, .int .u8 Z0.s6, .int .u8 Z0.s7, .int .i64 Z0.K, .int .i64 Z0.M, .int .i64 Z0.B, .string Z0.key, .int .i64 Z0.size, .int .i64 Z0.idx, .int .i64 Z0.ep, .int .i64 Z0.ct] rfl rfl rfl rfl rfl ?_) | (refine wpList_loadH rfl (.tmp 5) rfl w2.heap.size rfl #[.int .u8 Z0.s0, .int .u8 Z0.s1, .int .u8 Z0.s2, .int .u8 Z0.s3, .int .u8 Z0.s4, .int .u8 Z0.s5, .int .u8 Z0.s6, .int .u8 Z0.s7, .int .i64 Z0.K, .int .i64 Z0.M, .int .i64 Z0.B, .string Z0.key, .int .i64 Z0.size, .int .i64 Z0.idx, .int .i64 Z0.ep, .int .i64 Z0.ct] rfl HH3.out ?_))
  obtain ⟨w3, hw3⟩ : ∃ w3, w3 = w2.alloc (.cells #[.int .u8 Z0.s0, .int .u8 Z0.s1, .int .u8 Z0.s2, .int .u8 Z0.s3, .int .u8 Z0.s4, .int .u8 Z0.s5, .int .u8 Z0.s6, .int .u8 Z0.s7, .int .i64 Z0.K, .int .i64 Z0.M, .int .i64 Z0.B, .string Z0.key, .int .i64 Z0.size, .int .i64 Z0.idx, .int .i64 Z0.ep, .int .i64 Z0.ct] 42) := ⟨_, rfl⟩
  rw [← hw3] at HH3 HB23 ⊢
  clear hw3
  obtain ⟨gh, hgh⟩ : ∃ gh, gh = w2.heap.size := ⟨_, rfl⟩
  rw [← hgh] at HH3 HB23 hz2 ⊢
  have HGH := Lib.hid hgh
  clear hgh
  obtain ⟨ln, hln⟩ : ∃ ln, ln = l.take m2 := ⟨_, rfl⟩
  have hm2n : m2 = ln.length := by rw [hln, List.length_take]; have := HML.out; omega
  have HRn : Hid (RL w2 A1 ln) := Lib.hid fun i hi => by
    have h1 := own_rl' HO1.out i (by rw [← HML.out]; omega)
    dsimp only
    rw [show ln.getD i 0 = l.getD i 0 from by rw [hln]; rw [← hm2n] at hi; simp [List.getD_eq_getElem?_getD, hi]]
    exact h1
  have HXn : Hid (∀ x ∈ ln, x < 256) := Lib.hid fun x hx => HXL.out x (by rw [hln] at hx; exact List.mem_of_mem_take hx)
  have HMN := Lib.hid hm2n
  have hm2b : m2 ≤ 1048576 := by omega
  clear hln hm2n hm1l hlc1 HML HO1 HL1 HXL HX
  obtain ⟨Z, hZ⟩ : ∃ Z : Hd, Z = { Z0 with size := (ln.length : Int), idx := 0 } := ⟨_, rfl⟩
  have HSP := Lib.hid (split_any Z0 A1 c1 ln w3 HXn.out (by rw [← HMN.out]; omega) (by rw [← HMN.out]; exact hm2c) hcm1 (HRn.out.below (by rw [← HGH.out]; exact HB23.out)))
  rw [← HMN.out] at HSP hZ
  rw [← hZ] at HSP
  have HZ := Lib.hid hZ
  refine HSP.out.mono ?_
  rintro e w4 ⟨hb4, _, h4⟩
  obtain ⟨n, hnE⟩ : ∃ n, n = (1 + fK p) + (1 + fM p) := ⟨_, rfl⟩
  obtain ⟨f1, f2, f3, f4⟩ := fit_nums p
  have hn0 : 0 < n := by omega
  have hn2 : n ≤ 255 := by omega
  have hsN : n = shN Z := by
    rw [hZ, HZ0.out, hnE]
    show _ = (1 + (fK p : Int)).toNat + (1 + (fM p : Int)).toNat
    omega
  have HCK : Hid (∀ t : Nat, t < n → checkE { Z with idx := (t : Int) } = 0) := Lib.hid fun t ht => by
    have h1 := fit_checkS p nd m2 t HM2.out (by rw [← hnE]; exact ht)
    rw [← HZ0.out] at h1
    rw [HZ.out]
    exact h1
  obtain ⟨g, V, T, rfl, hgl, hO⟩ := h4 (by have h5 := HCK.out 0 hn0; rw [hZ] at h5 ⊢; exact h5)
  rw [← hsN] at hO ⊢
  have hnKM : n = K1 + M1 := by rw [HK1.out, HMM1.out, hnE]
  have hKM : (K1 : Int) + (M1 : Int) = (n : Int) := by omega
  have HSN := Lib.hid hsN; have HNE := Lib.hid hnE; have HNKM := Lib.hid hnKM
  have HZW : Hid (HdW Z0) := Lib.hid (by rw [HZ0.out]; exact fit_wf HWF.out)
  have HZKT : Hid (Z.K.toNat = K1) := Lib.hid (by rw [hZ]; show Z0.K.toNat = K1; rw [HZK0.out]; rfl)
  have HB34 := Lib.hid hb4
  have HO := Lib.hid hO
  have HH4 : Hid (w4.heap[gh]? = some (.cells #[.int .u8 Z0.s0, .int .u8 Z0.s1, .int .u8 Z0.s2, .int .u8 Z0.s3, .int .u8 Z0.s4, .int .u8 Z0.s5, .int .u8 Z0.s6, .int .u8 Z0.s7, .int .i64 Z0.K, .int .i64 Z0.M, .int .i64 Z0.B, .string Z0.key, .int .i64 Z0.size, .int .i64 Z0.idx, .int .i64 Z0.ep, .int .i64 Z0.ct] 42 (0, 0))) := Lib.hid ((hb4.block gh (Array.getElem?_eq_some_iff.1 HH3.out).1).trans HH3.out)
  have hz3 : gh < w3.heap.size := (Array.getElem?_eq_some_iff.1 HH3.out).1
  have HB24 : Hid (Below gh w2 w4) := Lib.hid (HB23.out.trans (hb4.mono (by omega)))
  have hz4 : w3.heap.size ≤ w4.heap.size := hb4.size
  have HBX4 : Hid (w4.heap[bx]? = some (.cells #[.int .i64 p.K, .int .i64 p.M, .int .i64 p.B, .int .u8 p.s0, .int .u8 p.s1, .int .u8 p.s2, .int .u8 p.s3, .int .u8 p.s4, .int .u8 p.s5, .int .u8 p.s6, .int .u8 p.s7, .string p.key, .int .i64 p.ep, .int .i64 p.ct, .slice A0 nd cd, .slice Pk np cp] 64 (0, 0))) := Lib.hid ((HB24.out.block bx hz2).trans HBX2.out)
  have c8 : w4.cell? ⟨gh, 8, none⟩ = some (.int .i64 (K1 : Int)) := by rw [cell_of_row w4 gh 8 _ _ (0, 0) HH4.out, ← HZK0.out]; rfl
  have c9 : w4.cell? ⟨gh, 9, none⟩ = some (.int .i64 (M1 : Int)) := by rw [cell_of_row w4 gh 9 _ _ (0, 0) HH4.out, ← HZM0.out]; rfl
  have c15 : w4.cell? ⟨bx, 15, none⟩ = some (.slice Pk np cp) := by rw [cell_of_row w4 bx 15 _ _ (0, 0) HBX4.out]; rfl
  have hM1l : M1 ≤ 254 := by omega
  have HPL := Lib.hid (places_any Pk np cp n (M1 + 1) pi w4 hn0 (by omega) (by omega) hnp (HPI.out.below (HB2.out.trans (HB24.out.mono (by have := HBXE.out; omega)))))
  have hM1s : (M1 : Int) + 1 = ((M1 + 1 : Nat) : Int) := by omega
  rw [← hM1s] at HPL
  have HM1L := Lib.hid hM1l
  have HBW3 : Hid (Below w.heap.size w w3) := Lib.hid (HB2.out.trans (HB23.out.mono (by rw [HGH.out]; exact HB2.out.size)))
  clear h4 hb4 hO hZ hnE hsN hKM hnKM HSP HB23 hM1s
  have hKM : (K1 : Int) + (M1 : Int) = (n : Int) := by have := HNKM.out; omega
  go_wp2_with fail
  refine HPL.out.mono ?_
  rintro e w5 ⟨pb, P, rfl, hP5, hc5, hpb, hb5⟩
  have HB45 := Lib.hid hb5
  have hs67 := hb5.size
  have HPB : Hid (Own w5 w4.heap.size 4 1 (.slice (some ⟨pb, 0, none⟩) n n) n (fun t => [.bool (P t)])) := own_of_row hP5 (by omega) (by unfold maxLen; omega)
  have HOR : Hid (Own w5 w4.heap.size 3 1 (.slice none 0 0) 0 (fun t => [.int .i64 ((fun t => t) t : Nat)])) := Lib.hid (Own.nil _ _ _ _ _)
  have hgl4 : g < w4.heap.size := (HO.out.top.lt g rfl).2
  have HSD : Hid (OwnSd w5 w3.heap.size g n n (fun t => { Z with idx := (t : Int) }) V (fun t => spL Z.K.toNat Z.B.toNat ln t) T) := Lib.hid (HO.out.kept hb5)
  clear hP5 hb5 hpb hc5 HPL c15 hs67
  go_wp2
  go_loopg [9, 11] 2 (fun gk vo v wr => ∃ (T cnt : Nat) (ord : Nat → Nat), T ≤ 2 ∧ gk = 2 - T ∧ v = .int .i64 T ∧ Own wr w4.heap.size 3 1 vo cnt (fun t => [.int .i64 (ord t : Nat)]) ∧ opT P n T cnt ord ∧ Own wr w4.heap.size 4 1 (.slice (some ⟨pb, 0, none⟩) n n) n (fun t => [.bool (P t)]) ∧ Below w4.heap.size w4 wr)
  case atStart => exact ⟨0, 0, fun t => t, by omega, rfl, rfl, HOR.out, OrdI.start _ _ _, HPB.out, HB45.out⟩
  case round =>
    clear HOR HPB
    obtain ⟨T', cnt, ord, hT2, rfl, hv, hO, hT, hPB, hB⟩ := hrel
    have HSD0 := HO
    clear HO
    have HO := Lib.hid hO; have HPB := Lib.hid hPB; have HB := Lib.hid hB
    clear hO hPB hB
    rcases (show T' = 0 ∨ T' = 1 ∨ T' = 2 by omega) with rfl | rfl | rfl
    · have HOT : Hid (OrdI P n 0 0 cnt ord) := hT
      replace hv := (show _ = Value.int .i64 0 from hv)
      subst hv
      clear hT hT2
      go_wp2
      go_loopg [9, 12] n (fun gk vo v wr => ∃ (i cnt : Nat) (ord : Nat → Nat), i ≤ n ∧ gk = n - i ∧ v = .int .i64 i ∧ Own wr w4.heap.size 3 1 vo cnt (fun t => [.int .i64 (ord t : Nat)]) ∧ OrdI P n 0 i cnt ord ∧ Own wr w4.heap.size 4 1 (.slice (some ⟨pb, 0, none⟩) n n) n (fun t => [.bool (P t)]) ∧ Below w4.heap.size w4 wr)
      case atStart => exact ⟨0, cnt, ord, Nat.zero_le _, rfl, rfl, HO.out, HOT.out, HPB.out, HB.out⟩
      case round =>
        clear HO HOT HPB HB
        obtain ⟨i, cnt, ord, hi, rfl, rfl, hO, hT, hPB, hB⟩ := hrel
        have hle := OrdI.le hT hi
        have HO := Lib.hid hO; have HOT := Lib.hid hT; have HPB := Lib.hid hPB; have HB := Lib.hid hB
        clear hO hT hPB hB
        by_cases hlt : i < n
        · have hcp : wr.cell? ⟨pb, i, none⟩ = some (.bool (P i)) := HPB.out.cell1 hlt
          cases hPi : P i
          · have HT2 : Hid (OrdI P n 0 (i + 1) cnt ord) := HOT.out.no (by rw [hPi]; decide)
            rw [hPi] at hcp
            clear hPi HOT
            go_wp2
            go_roundg (n - (i + 1))
            case measure => omega
            case rel => exact ⟨i + 1, cnt, ord, by omega, rfl, by go_num, HO.out, HT2.out, HPB.out, HB.out⟩
          · have HT2 : Hid (OrdI P n 0 (i + 1) (cnt + 1) (fun t => if t = cnt then i else ord t)) := HOT.out.yes hlt (by rw [hPi]; decide)
            have hownB : Own wr w4.heap.size 3 1 _ cnt (fun t => [.int .i64 ((if t = cnt then i else ord t : Nat) : Int)]) := HO.out.congr fun t ht => by rw [if_neg (by omega)]
            have hu : Hid ((#[Value.int .i64 (i : Nat)] : Array Value).toList = [.int .i64 ((if cnt = cnt then i else ord cnt : Nat) : Int)]) := by rw [if_pos rfl]; rfl
            have hne := own_ne HPB.out hownB (by decide)
            have hsz := HB.out.size
            have HNE := Lib.hid hne; have HOB := Lib.hid hownB
            rw [hPi] at hcp
            clear hPi HOT HO hne hownB
            go_wp2_with (at_builtin; refine wpList_push _ rfl (.tmp 86) (.tmp 88) 25 rfl w4.heap.size 3 1 8 (.int .i64 0) #[.int .i64 (i : Nat)] Try.underlying25 intInfo rfl (by decide) _ cnt _ rfl HOB.out hsz _ rfl rfl hu.out rfl rfl (by omega) (by omega) ?_)
            intro v' w' hown2 hbel2 hg2 _
            have HPB2 := Lib.hid (HPB.out.keptRow hg2 HNE.out)
            have HB2' := Lib.hid (HB.out.trans hbel2)
            have HO2 := Lib.hid hown2
            clear hown2 hbel2 hg2 HNE HOB hu hcp HPB HB
            go_wp2
            go_roundg (n - (i + 1))
            case measure => omega
            case rel => exact ⟨i + 1, cnt + 1, _, by omega, rfl, by go_num, HO2.out, HT2.out, HPB2.out, HB2'.out⟩
        · have hin : i = n := by omega
          subst i
          have HT2 : Hid (OrdI P n 1 0 cnt ord) := HOT.out.turn
          clear HOT
          go_wp2
          go_roundg (1)
          case measure => omega
          case rel => exact ⟨1, cnt, ord, by omega, rfl, by go_num, HO.out, HT2.out, HPB.out, HB.out⟩
    · have HOT : Hid (OrdI P n 1 0 cnt ord) := hT
      replace hv := (show _ = Value.int .i64 1 from hv)
      subst hv
      clear hT hT2
      go_wp2
      go_loopg [9, 12] n (fun gk vo v wr => ∃ (i cnt : Nat) (ord : Nat → Nat), i ≤ n ∧ gk = n - i ∧ v = .int .i64 i ∧ Own wr w4.heap.size 3 1 vo cnt (fun t => [.int .i64 (ord t : Nat)]) ∧ OrdI P n 1 i cnt ord ∧ Own wr w4.heap.size 4 1 (.slice (some ⟨pb, 0, none⟩) n n) n (fun t => [.bool (P t)]) ∧ Below w4.heap.size w4 wr)
      case atStart => exact ⟨0, cnt, ord, Nat.zero_le _, rfl, rfl, HO.out, HOT.out, HPB.out, HB.out⟩
      case round =>
        clear HO HOT HPB HB
        obtain ⟨i, cnt, ord, hi, rfl, rfl, hO, hT, hPB, hB⟩ := hrel
        have hle := OrdI.le hT hi
        have HO := Lib.hid hO; have HOT := Lib.hid hT; have HPB := Lib.hid hPB; have HB := Lib.hid hB
        clear hO hT hPB hB
        by_cases hlt : i < n
        · have hcp : wr.cell? ⟨pb, i, none⟩ = some (.bool (P i)) := HPB.out.cell1 hlt
          cases hPi : P i
          · have HT2 : Hid (OrdI P n 1 (i + 1) (cnt + 1) (fun t => if t = cnt then i else ord t)) := HOT.out.yes hlt (by rw [hPi]; decide)
            have hownB : Own wr w4.heap.size 3 1 _ cnt (fun t => [.int .i64 ((if t = cnt then i else ord t : Nat) : Int)]) := HO.out.congr fun t ht => by rw [if_neg (by omega)]
            have hu : Hid ((#[Value.int .i64 (i : Nat)] : Array Value).toList = [.int .i64 ((if cnt = cnt then i else ord cnt : Nat) : Int)]) := by rw [if_pos rfl]; rfl
            have hne := own_ne HPB.out hownB (by decide)
            have hsz := HB.out.size
            have HNE := Lib.hid hne; have HOB := Lib.hid hownB
            rw [hPi] at hcp
            clear hPi HOT HO hne hownB
            go_wp2_with (at_builtin; refine wpList_push _ rfl (.tmp 86) (.tmp 88) 25 rfl w4.heap.size 3 1 8 (.int .i64 0) #[.int .i64 (i : Nat)] Try.underlying25 intInfo rfl (by decide) _ cnt _ rfl HOB.out hsz _ rfl rfl hu.out rfl rfl (by omega) (by omega) ?_)
            intro v' w' hown2 hbel2 hg2 _
            have HPB2 := Lib.hid (HPB.out.keptRow hg2 HNE.out)
            have HB2' := Lib.hid (HB.out.trans hbel2)
            have HO2 := Lib.hid hown2
            clear hown2 hbel2 hg2 HNE HOB hu hcp HPB HB
            go_wp2
            go_roundg (n - (i + 1))
            case measure => omega
            case rel => exact ⟨i + 1, cnt + 1, _, by omega, rfl, by go_num, HO2.out, HT2.out, HPB2.out, HB2'.out⟩
          · have HT2 : Hid (OrdI P n 1 (i + 1) cnt ord) := HOT.out.no (by rw [hPi]; decide)
            rw [hPi] at hcp
            clear hPi HOT
            go_wp2
            go_roundg (n - (i + 1))
            case measure => omega
            case rel => exact ⟨i + 1, cnt, ord, by omega, rfl, by go_num, HO.out, HT2.out, HPB.out, HB.out⟩
        · have hin : i = n := by omega
          subst i
          have HT2 : Hid (OrdI P n 1 n cnt ord) := HOT.out
          clear HOT
          go_wp2
          go_roundg (0)
          case measure => omega
          case rel => exact ⟨2, cnt, ord, by omega, rfl, by go_num, HO.out, HT2.out, HPB.out, HB.out⟩
    · obtain ⟨hcn, hol, hoi⟩ := OrdI.last (show OrdI P n 1 n cnt ord from hT)
      replace hv := (show _ = Value.int .i64 2 from hv)
      subst hv
      subst cnt
      obtain ⟨bo, co, rfl, hboB, hbol, hnco, _⟩ := HO.out.form (show 0 < n by omega)
      have HOL := Lib.hid hol; have HOI := Lib.hid hoi
      have HSDr : Hid (OwnSd wr w3.heap.size g n n (fun t => { Z with idx := (t : Int) }) V (fun t => spL Z.K.toNat Z.B.toNat ln t) T) := Lib.hid (HSD0.out.kept HB.out)
      have HBr : Hid (Below w3.heap.size w3 wr) := Lib.hid (HB34.out.trans (HB.out.mono hz4))
      have HORr := HO
      clear hT hT2 hol hoi HPB hnco HO HSD HB HSD0 HB45 HB34
      obtain ⟨q, hq⟩ : ∃ q, q = ord 0 := ⟨_, rfl⟩
      have hqn : q < n := by rw [hq]; exact HOL.out 0 hn0
      have HQ0 := Lib.hid hq
      obtain ⟨Hs, hHs⟩ : ∃ Hs : Nat → Hd, Hs = fun t => { Z with idx := (t : Int) } := ⟨_, rfl⟩
      rw [← hHs] at HSDr
      have HHS := Lib.hid hHs
      have HZS : Hid (Z.size = (ln.length : Int)) := Lib.hid (by rw [HZ.out]; show ((m2 : Nat) : Int) = _; rw [HMN.out])
      have HCK0 : Hid (checkE Z = 0) := Lib.hid (by
        have h5 := HCK.out 0 hn0
        rw [HZ.out] at h5 ⊢
        exact h5)
      have HF : Hid (Fit10 n Z (fun t => spL Z.K.toNat Z.B.toNat ln t)) := Lib.hid (Fit10.spl HZS.out)
      obtain ⟨NB, hNB⟩ : ∃ NB, NB = nblk (Z.K.toNat * Z.B.toNat) Z.size.toNat := ⟨_, rfl⟩
      have hNBl : NB ≤ 4097 := by rw [hNB, ← (HF.out q hqn).1.1]; exact (HF.out.bnd HCK0.out HZS.out hqn).1
      have HNB := Lib.hid hNB
      clear hq hHs hNB c8 c9
      go_wp2
      go_loopg [13, 14] NB (fun gk vu vj wr => ∃ (u j : Nat) (Bs : Nat → List (List Nat)), j ≤ NB ∧ gk = NB - j ∧ vu = .int .i64 u ∧ vj = .int .i64 j ∧ u ≤ ny ∧ OwnSd wr w3.heap.size g n n Hs V Bs T ∧ Fit10 n Z Bs ∧ Own wr w4.heap.size 3 1 (.slice (some ⟨bo, 0, none⟩) n co) n (fun t => [.int .i64 (ord t : Nat)]) ∧ Below w3.heap.size w3 wr)
      case atStart => exact ⟨0, 0, _, Nat.zero_le _, rfl, rfl, rfl, Nat.zero_le _, HSDr.out, HF.out, HORr.out, HBr.out⟩
      case round =>
        clear HSDr HF HORr HBr
        obtain ⟨u, j, Bs, hj, rfl, rfl, rfl, hu, hS, hF, hO, hB⟩ := hrel
        have hoc : wr.cell? ⟨bo, 0, none⟩ = some (.int .i64 (q : Nat)) := by rw [HQ0.out]; exact hO.cell1 hn0
        obtain ⟨A, d, hlc⟩ := hS.listc hqn
        have hBl : (Bs q).length = NB := (hF q hqn).1.1.trans HNB.out.symm
        rw [hBl] at hlc
        by_cases hlj : j < NB
        · obtain ⟨lx, hlx⟩ : ∃ lx, lx = blen Z.K.toNat Z.B.toNat Z.size.toNat j := ⟨_, rfl⟩
          have hRl : ((Bs q).getD j []).length = lx := by rw [hlx]; exact (hF q hqn).1.2 j (by rw [hBl]; exact hlj)
          have hlxb : lx ≤ 65536 := by rw [← hRl]; exact (hF.bnd HCK0.out HZS.out hqn).2 _ (memL_get' (by rw [hBl]; exact hlj))
          have HLX := Lib.hid hlx
          have HS := Lib.hid hS; have HF := Lib.hid hF; have HO := Lib.hid hO; have HB := Lib.hid hB
          clear hS hF hO hB hBl hRl hlx
          go_wp2
          go_loopg [13, 15] lx (fun gk vu vk wr => ∃ (u k : Nat) (Bs : Nat → List (List Nat)), k ≤ lx ∧ gk = lx - k ∧ vu = .int .i64 u ∧ vk = .int .i64 k ∧ u ≤ ny ∧ OwnSd wr w3.heap.size g n n Hs V Bs T ∧ Fit10 n Z Bs ∧ Own wr w4.heap.size 3 1 (.slice (some ⟨bo, 0, none⟩) n co) n (fun t => [.int .i64 (ord t : Nat)]) ∧ Below w3.heap.size w3 wr)
          case atStart => exact ⟨u, 0, Bs, Nat.zero_le _, rfl, rfl, rfl, hu, HS.out, HF.out, HO.out, HB.out⟩
          case round =>
            clear HS HF HO HB hoc hlc hu
            obtain ⟨u, k, Bs, hk, rfl, rfl, rfl, hu, hS, hF, hO, hB⟩ := hrel
            have hoc : wr.cell? ⟨bo, 0, none⟩ = some (.int .i64 (q : Nat)) := by rw [HQ0.out]; exact hO.cell1 hn0
            have hBl : (Bs q).length = NB := (hF q hqn).1.1.trans HNB.out.symm
            have hRl : ((Bs q).getD j []).length = lx := by rw [HLX.out]; exact (hF q hqn).1.2 j (by rw [hBl]; exact hlj)
            by_cases hlk : k < lx
            · obtain ⟨t, d, s, C, hlc, hrc, hbc, hfz, hBs, hset, hne⟩ := hS.bytec (r := j) (k := k) hqn (by rw [hBl]; exact hlj) (by rw [hRl]; exact hlk)
              rw [hBl] at hlc
              rw [hRl] at hrc
              by_cases hlu : u < ny
              · obtain ⟨bY, oY, hYe, hbY, hyc⟩ := HY.out u (by rw [← HNY.out]; exact hlu)
                subst hYe
                obtain ⟨x, hx⟩ : ∃ x, x = ly.getD u 0 := ⟨_, rfl⟩
                have hyc2 : wr.cell? ⟨bY, oY + u, none⟩ = some (.int .u8 (x : Nat)) := by
                  rw [hx]
                  exact ((HBW3.out.trans (hB.mono HBW3.out.size)).cell hbY).trans hyc
                have hx2 : x < 256 := by rw [hx]; exact getD_lt HYX.out (by rw [← HNY.out]; exact hlu)
                have HS2 := Lib.hid (hset x)
                have HF2 := Lib.hid (hF.set (r := j) (k := k) hqn hx2)
                have HO2 := Lib.hid (hO.setOther (a := ⟨s, k, none⟩) (fun e => hne _ _ _ _ _ hO (by injection e)) (.int .u8 (x : Int)))
                have HB2' := Lib.hid (hB.setCell (p := ⟨s, k, none⟩) hBs (.int .u8 (x : Int)))
                have HBC := Lib.hid hbc
                have KS : Hid (wr.cell? ⟨bo, 0, none⟩ = some (.int .i64 (q : Nat)) ∧ wr.cell? ⟨g, q * 17 + 16, none⟩ = some (.slice (some ⟨t, 0, none⟩) NB d) ∧ wr.cell? ⟨t, j, none⟩ = some (.slice (some ⟨s, 0, none⟩) lx C) ∧ wr.cell? ⟨bY, oY + u, none⟩ = some (.int .u8 (x : Nat))) := Lib.hid ⟨hoc, hlc, hrc, hyc2⟩
                clear hS hF hO hB hset hne hbc hyc hx hBl hRl
                go_wp2_with fail
                clear hoc hlc hrc hyc2
                refine wp_region_mix [(true, true, false), (true, true, false), (true, true, false), (true, true, true), (true, true, false), (true, true, false), (true, true, true), (true, true, false), (true, true, false), (true, true, true), (true, true, false), (true, true, false), (true, true, false), (true, true, false), (true, true, true), (true, true, false), (false, false, true)] mixed (by kernel_rfl) (fun w4 => w4.cell? ⟨bo, 0, none⟩ = some (.int .i64 (q : Nat)) ∧ w4.cell? ⟨g, q * 17 + 16, none⟩ = some (.slice (some ⟨t, 0, none⟩) NB d) ∧ w4.cell? ⟨t, j, none⟩ = some (.slice (some ⟨s, 0, none⟩) lx C) ∧ w4.cell? ⟨bY, oY + u, none⟩ = some (.int .u8 (x : Nat))) (KS.out) ?_
                intro hSw0
                simp only [hdM, tlM, List.cons_append, List.nil_append]
                repeat (first
                  | (refine mix_look hSw0.out ?_ (by rfl) (fun w4 hSw => ?_) ?_; rotate_left; (focus (obtain ⟨s1, s2, s3⟩ := hSw; go_simp; try with_reducible rfl)); simp only [Act.put, List.setIfInBounds_toArray, List.set_cons_zero, List.set_cons_succ])
                  | (refine mix_pure ?_ (by rfl) (fun w4 => ?_) ?_; rotate_left; (focus (go_simp; try with_reducible rfl)); simp only [Act.put, List.setIfInBounds_toArray, List.set_cons_zero, List.set_cons_succ]))
                have hy5 := HBC.out
                refine mix_step (fun K hK => ?_)
                go_simp
                refine hK.out _ _ (fun h => absurd h (by decide)) ?_
                clear hK K
                try simp only [Act.put, List.setIfInBounds_toArray, List.set_cons_zero, List.set_cons_succ]
                refine mix_nil ?_
                clear hy5
                go_wp2
                go_roundg (lx - (k + 1))
                case measure => omega
                case rel => exact ⟨u + 1, k + 1, _, by omega, rfl, by go_num, by go_num, by omega, (HS2.out.kept (Below.refl _ _).drew), HF2.out, (HO2.out.kept (Below.refl _ _).drew), HB2'.out.drew⟩
              · obtain rfl : ny = u := by omega
                have HS := Lib.hid hS; have HF := Lib.hid hF; have HO := Lib.hid hO; have HB := Lib.hid hB
                clear hS hF hO hB hset hne hbc hBl hRl hfz
                go_wp2
                go_roundg (NB - (j + 1))
                case measure => omega
                case rel => exact ⟨ny, j + 1, Bs, by omega, rfl, rfl, by go_num, Nat.le_refl _, HS.out, HF.out, HO.out, HB.out⟩
            · obtain rfl : lx = k := by omega
              obtain ⟨t, d, S, C, hlc, hrc⟩ := hS.rowc (r := j) hqn (by rw [hBl]; exact hlj)
              rw [hBl] at hlc
              rw [hRl] at hrc
              have HS := Lib.hid hS; have HF := Lib.hid hF; have HO := Lib.hid hO; have HB := Lib.hid hB
              clear hS hF hO hB hBl hRl
              go_wp2
              go_roundg (NB - (j + 1))
              case measure => omega
              case rel => exact ⟨u, j + 1, Bs, by omega, rfl, rfl, by go_num, hu, HS.out, HF.out, HO.out, HB.out⟩
        · obtain rfl : NB = j := by omega
          have HS := Lib.hid hS; have HF := Lib.hid hF; have HO := Lib.hid hO; have HB := Lib.hid hB
          clear hS hF hO hB hBl HY HYX HNY hu
          go_wp2
          go_loopg [16] M1 (fun gk v wr => ∃ i : Nat, 1 ≤ i ∧ i ≤ M1 + 1 ∧ gk = M1 + 1 - i ∧ v = .int .i64 i ∧ ErSd wr w3.heap.size g n n Hs V Bs T (lostQ ord (i - 1)) ∧ Own wr w4.heap.size 3 1 (.slice (some ⟨bo, 0, none⟩) n co) n (fun t => [.int .i64 (ord t : Nat)]) ∧ Below w3.heap.size w3 wr)
          case atStart => exact ⟨1, by omega, by omega, by omega, rfl, HS.out.er, HO.out, HB.out⟩
          case round =>
            clear HS HO HB hoc hlc
            obtain ⟨i, hi1, hi, rfl, rfl, hE, hO, hB⟩ := hrel
            have c9 : wr.cell? ⟨gh, 9, none⟩ = some (.int .i64 (M1 : Int)) := by rw [cell_of_row wr gh 9 _ _ (0, 0) ((hB.block gh hz3).trans HH3.out), ← HZM0.out]; rfl
            by_cases hlt : i ≤ M1
            · obtain ⟨e, he⟩ : ∃ e, e = ord i := ⟨_, rfl⟩
              have hin : i < n := by have := HNKM.out; omega
              have hoi : wr.cell? ⟨bo, i, none⟩ = some (.int .i64 (e : Nat)) := by rw [he]; exact hO.cell1 hin
              have hen : e < n := by rw [he]; exact HOL.out i hin
              obtain ⟨cur, hcur, hcz, _, hBg⟩ := hE.cur
              have HCUR := Lib.hid hcur
              have hke : e * 17 + 17 ≤ n * 17 := by omega
              have HNE := Lib.hid (own_ne hO hE.top (by decide))
              have HEH := Lib.hid he
              have HE := Lib.hid hE; have HO := Lib.hid hO; have HB := Lib.hid hB
              have hsz := hB.size
              clear hcur hE hO hB he
              go_wp2_with (refine wpList_storePart rfl 69 (.tmp 154) (.tmp 153) rfl g (e * 17) #[.int .u8 0, .int .u8 0, .int .u8 0, .int .u8 0, .int .u8 0, .int .u8 0, .int .u8 0, .int .u8 0, .int .i64 0, .int .i64 0, .int .i64 0, .string ⟨#[]⟩, .int .i64 0, .int .i64 0, .int .i64 0, .int .i64 0, .slice none 0 0] rfl rfl (by kernel_rfl) 69 cur (by rw [hcz]; exact hke) HCUR.out rfl ?_)
              intro w8 hw8 hg8 _
              have HEN := Lib.hid ((HE.out.erase (i := e) hen HCUR.out (by rw [List.append_assoc]; exact hw8) hg8).congr (P' := lostQ ord (i + 1 - 1)) fun t _ => by rw [lostQ_step hi1, ← HEH.out])
              have HO2 := Lib.hid (HO.out.keptRow hg8 HNE.out)
              have HB2' := Lib.hid (HB.out.grown hg8 hsz fun k e => by injection e with e; omega)
              clear hw8 hg8 hoi c9 HE HO HB
              go_wp2
              go_roundg (M1 + 1 - (i + 1))
              case measure => omega
              case rel => exact ⟨i + 1, by omega, by omega, rfl, by go_num, HEN.out, HO2.out, HB2'.out⟩
            · obtain rfl : i = M1 + 1 := by omega
              obtain ⟨P', hP'⟩ : ∃ P', P' = lostQ ord M1 := ⟨_, rfl⟩
              have hM1n : M1 < n := by have := HNKM.out; omega
              have HCN : Hid (cntB P' n = M1) := Lib.hid (by rw [hP']; exact lostQ_cnt HOL.out HOI.out hM1n)
              have HEN : Hid (ErSd wr w3.heap.size g n n Hs V Bs T P') := Lib.hid (by rw [hP']; exact hE)
              have HBD : Hid (∀ t, t < n → (erB P' Bs t).length ≤ 140737488351232 ∧ (∀ y ∈ erB P' Bs t, y.length ≤ 140737488351232) ∧ ∀ y ∈ erB P' Bs t, ∀ x ∈ y, x < 256) := Lib.hid fun t ht =>
                er_bnd (Nat.le_trans (HF.out.bnd HCK0.out HZS.out ht).1 (by decide)) (fun y hy => Nat.le_trans ((HF.out.bnd HCK0.out HZS.out ht).2 y hy) (by decide)) (HF.out t ht).2
              have HWE : Hid (∀ t, t < n → HdW (erH P' Hs t)) := Lib.hid fun t ht => er_wf (by
                rw [HHS.out, HZ.out]
                exact hdw_spl HZW.out m2 t (by omega) (by omega))
              have HJL := Lib.hid (fun (er : Int) (l' : List Nat) (h : JoinR n (erH P' Hs) (erB P' Bs) er l') => open_join (Z := Z) HSN.out HCK.out (fun t _ => by rw [HHS.out]) (by rw [HZKT.out, HZ.out]; show K1 ∣ ((m2 : Nat) : Int).toNat; exact HKD.out) (fun t ht => (HF.out t ht).1) (fun t ht => (HF.out t ht).2) (by rw [HZKT.out, HCN.out]; exact HNKM.out.symm) (by rw [HZKT.out]; exact hKp) h)
              have HB := Lib.hid hB
              clear hE hO hB hP' HOL HOI
              go_wp2_with fail
              refine (join_all (some ⟨g, 0, none⟩) n n _ _ wr (by omega) HWE.out HEN.out.rsd (fun t ht => (HBD.out t ht).1) (fun t ht => (HBD.out t ht).2.1) (fun t ht => (HBD.out t ht).2.2)).mono ?_
              rintro e w6 ⟨er, l', A6, c6, rfl, hJ, hO6, hb6⟩
              clear c9
              obtain ⟨rfl, hl6, hX6, hsp6⟩ := HJL.out er l' hJ
              have hl6' : l'.length = m2 := by rw [hl6, HZ.out]; rfl
              have HR6 := Lib.hid (own_rl' hO6)
              have hlc6 : l'.length ≤ c6 ∧ c6 ≤ maxLen := by
                obtain ⟨A', c', e', h4, h5, _⟩ := hO6.own.rd
                injection e' with _ _ e3
                omega
              have HX6 := Lib.hid hX6; have HSP6 := Lib.hid hsp6
              have HSP2 := Lib.hid (split_any Z0 A6 c6 l' w6 HX6.out (by omega) hlc6.1 hlc6.2 HR6.out)
              rw [hl6', ← HZ.out] at HSP2
              have HB6 := Lib.hid (HB.out.trans (hb6.mono HB.out.size))
              have HE6 := Lib.hid (HEN.out.kept hb6)
              rw [hl6'] at hlc6 ⊢
              have HH6 := Lib.hid ((HB6.out.block gh hz3).trans HH3.out)
              have HL6 := Lib.hid hl6'
              clear hJ hO6 hb6 hl6 hX6 hsp6 hl6' HJL HB HEN
              go_wp2_with (refine wpList_loadH rfl (.tmp 5) rfl gh rfl #[.int .u8 Z0.s0, .int .u8 Z0.s1, .int .u8 Z0.s2, .int .u8 Z0.s3, .int .u8 Z0.s4, .int .u8 Z0.s5, .int .u8 Z0.s6, .int .u8 Z0.s7, .int .i64 Z0.K, .int .i64 Z0.M, .int .i64 Z0.B, .string Z0.key, .int .i64 Z0.size, .int .i64 Z0.idx, .int .i64 Z0.ep, .int .i64 Z0.ct] rfl HH6.out ?_)
              refine HSP2.out.mono ?_
              rintro e w7 ⟨hb7, _, h7⟩
              obtain ⟨g2, V2, T2, rfl, hg2l, hO7⟩ := h7 HCK0.out
              rw [← HSN.out] at hO7 ⊢
              have HB7 := Lib.hid (HB6.out.trans (hb7.mono HB6.out.size))
              have HE7 := Lib.hid (HE6.out.kept hb7)
              have HR1 := Lib.hid HE7.out.rsd
              have HR2 := Lib.hid hO7.er.rsd
              clear h7 hb7 hO7 HB6 HE6 HE7 HSP2 HH6 HR6 HBD
              go_wp2
              obtain ⟨S1, C1, h1a, h1b⟩ := HR1.out
              obtain ⟨S2, C2, h2a, h2b⟩ := HR2.out
              have H1 := Lib.hid h1a; have H1b := Lib.hid h1b; have H2 := Lib.hid h2a; have H2b := Lib.hid h2b
              clear h1a h1b h2a h2b HR1 HR2 HB24 HB2 HH3 HH4 HBX2 HBX4 HZK0 HZM0 HZ0
              go_loopg [21] n (fun gk i wr => ∃ k : Nat, k ≤ n ∧ gk = n - k ∧ i = .int .i64 k ∧ Below w7.heap.size w7 wr)
              case atStart => exact ⟨0, Nat.zero_le _, rfl, rfl, Below.refl _ _⟩
              case round =>
                obtain ⟨k, hk, rfl, rfl, hb⟩ := hrel
                have HB := Lib.hid hb
                clear hb
                by_cases hlt : k < n
                · obtain ⟨Z1, hZ1⟩ : ∃ Z1, Z1 = erH P' Hs k := ⟨_, rfl⟩
                  have HZ1 : Hid (HdW Z1) := Lib.hid (by rw [hZ1]; exact HWE.out k hlt)
                  obtain ⟨A1, hA1⟩ : ∃ A, A = S1 k := ⟨_, rfl⟩
                  obtain ⟨d1, hd1⟩ : ∃ d, d = C1 k := ⟨_, rfl⟩
                  obtain ⟨mm, hm1⟩ : ∃ m, m = (erB P' Bs k).length := ⟨_, rfl⟩
                  have hlt0 : (k : Int) < (n : Int) := by omega
                  have HC1 : Hid (∀ w', Below wr.heap.size wr w' → (∀ j v, (#[.int .u8 Z1.s0, .int .u8 Z1.s1, .int .u8 Z1.s2, .int .u8 Z1.s3, .int .u8 Z1.s4, .int .u8 Z1.s5, .int .u8 Z1.s6, .int .u8 Z1.s7, .int .i64 Z1.K, .int .i64 Z1.M, .int .i64 Z1.B, .string Z1.key, .int .i64 Z1.size, .int .i64 Z1.idx, .int .i64 Z1.ep, .int .i64 Z1.ct] : Array Value).toList[j]? = some v → w'.cell? ((⟨g, k * 17, none⟩ : Addr).add j) = some v) ∧ w'.cell? ⟨g, k * 17 + 16, none⟩ = some (.slice A1 mm d1) ∧ ∀ j v, (sdC Z1 (.slice A1 mm d1))[j]? = some v → w'.cell? ⟨g, k * 17 + j, none⟩ = some v) := Lib.hid fun w' hb => by
                    have h1 := H1.out.keep (HB.out.trans (hb.mono HB.out.size))
                    have h2 := h1.head hlt
                    have h3 := h1.list hlt
                    have h4 := h1.all hlt
                    rw [Nat.zero_add] at h2 h3 h4
                    rw [hZ1, hm1, hA1, hd1]
                    exact ⟨h2, h3, fun j v hj => by have h5 := h4 j v hj; rw [add_addr] at h5; exact h5⟩
                  by_cases hPk : P' k = true
                  · have HGE : Hid (∀ w', (Op.equalIn 10000 24 (.agg #[.int .i64 Z1.K, .int .i64 Z1.M, .int .i64 Z1.B]) (.agg #[.int .i64 0, .int .i64 0, .int .i64 0])).run Try.prog w' = .ok true w') := Lib.hid fun w' => by
                      have h1 := gone_eql HZ1.out w'
                      have h2 : gone Z1 = true := by rw [hZ1]; unfold erH; rw [if_pos hPk]; exact gone_hd0
                      rw [h2] at h1
                      exact h1
                    clear hZ1 hA1 hd1 hm1 hPk
                    go_wp2_with fail
                    refine wp_region_factsG [.is (.slice (some ⟨g, 0, none⟩) n n), .is (.int .i64 (k : Int)), .is (.pointer (some ⟨g, k * 17, none⟩)), .is (.pointer (some ⟨g, k * 17, none⟩)), .is (.pointer (some ⟨g, k * 17 + 8, none⟩)), .is (.agg #[.int .i64 Z1.K, .int .i64 Z1.M, .int .i64 Z1.B]), .is (.agg #[.int .i64 0, .int .i64 0, .int .i64 0]), .is (.bool false), .is (.bool false), .is (undef), .is (undef), .is (undef), .is (undef), .is (undef), .is (undef), .is (undef), .is (undef), .is (undef), .is (undef), .is (undef), .is (undef), .is (undef), .is (undef), .is (undef), .is (undef), .is (undef), .is (undef), .is (undef), .is (undef), .is (undef), .is (undef), .is (undef), .is (undef), .is (undef), .is (.bool false)] mixed (by kernel_rfl) (fun hdr => ⟨?_, ?_, ?_, ?_, ?_, ?_, ?_, ?_, ?_, ?_, ?_, ?_, ?_, ?_, ?_, ?_, ?_, ?_, ?_, ?_, ?_, ?_, ?_, ?_, ?_, ?_, ?_, ?_, ?_, ?_, ?_, ?_, ?_, ?_, ?_, trivial⟩) (fun wE hbE => ?_)
                    · intro a w2 hb hs K hK
                      repeat (intro _)
                      refine ⟨?_⟩
                      have h7 : a.tmps[7]?.getD undef = .slice (some ⟨g, 0, none⟩) n n := hs 7 (by kernel_rfl)
                      rw [if_pos (by rfl)]
                      go_simp
                      exact hK.out _ _ (Below.refl _ _) rfl
                    · intro a w2 hb hs K hK
                      repeat (intro _)
                      refine ⟨?_⟩
                      have h21 : a.tmps[21]?.getD undef = .int .i64 (k : Int) := hs 21 (by kernel_rfl)
                      rw [if_pos (by rfl)]
                      go_simp
                      exact hK.out _ _ (Below.refl _ _) rfl
                    · intro a w2 hb hs K hK
                      repeat (intro _)
                      refine ⟨?_⟩
                      have h190 : a.tmps[190]?.getD undef = .slice (some ⟨g, 0, none⟩) n n := by assumption
                      have h191 : a.tmps[191]?.getD undef = .int .i64 (k : Int) := by assumption
                      rw [if_pos (by rfl)]
                      go_simp
                      exact hK.out _ _ (Below.refl _ _) rfl
                    · intro a w2 hb hs K hK
                      repeat (intro _)
                      refine ⟨?_⟩
                      have h192 : a.tmps[192]?.getD undef = .pointer (some ⟨g, k * 17, none⟩) := by assumption
                      rw [if_pos (by rfl)]
                      go_simp
                      exact hK.out _ _ (Below.refl _ _) rfl
                    · intro a w2 hb hs K hK
                      repeat (intro _)
                      refine ⟨?_⟩
                      have h193 : a.tmps[193]?.getD undef = .pointer (some ⟨g, k * 17, none⟩) := by assumption
                      rw [if_pos (by rfl)]
                      go_simp
                      exact hK.out _ _ (Below.refl _ _) rfl
                    · intro a w2 hb hs K hK
                      repeat (intro _)
                      refine ⟨?_⟩
                      have h194 : a.tmps[194]?.getD undef = .pointer (some ⟨g, k * 17 + 8, none⟩) := by assumption
                      rw [if_pos (by rfl)]
                      exact wp_loadAgg 24 (.tmp 194) rfl ⟨g, k * 17 + 8, none⟩ ((slot_eval a 194).trans h194) #[.int .i64 Z1.K, .int .i64 Z1.M, .int .i64 Z1.B] _ (fun j v hj => by rw [add_addr]; have hj2 : j < 3 := (List.getElem?_eq_some_iff.1 hj).1; rw [Nat.add_assoc]; exact (HC1.out w2 (hdr.out.trans (hb.mono hdr.out.size))).2.2 (8 + j) v (by rw [← hj]; rcases j with _ | _ | _ | j <;> first | rfl | omega)) Try.underlying24 rfl info_P (hK.out _ _ (Below.refl _ _) rfl)
                    · intro a w2 hb hs K hK
                      repeat (intro _)
                      refine ⟨?_⟩
                      rw [if_pos (by rfl)]
                      go_simp
                      exact hK.out _ _ (Below.refl _ _) rfl
                    · intro a w2 hb hs K hK
                      repeat (intro _)
                      refine ⟨?_⟩
                      have h195 : a.tmps[195]?.getD undef = .agg #[.int .i64 Z1.K, .int .i64 Z1.M, .int .i64 Z1.B] := by assumption
                      have h196 : a.tmps[196]?.getD undef = .agg #[.int .i64 0, .int .i64 0, .int .i64 0] := by assumption
                      rw [if_pos (by rfl)]
                      exact wp_neqAgg 24 (.tmp 195) (.tmp 196) rfl #[.int .i64 Z1.K, .int .i64 Z1.M, .int .i64 Z1.B] #[.int .i64 0, .int .i64 0, .int .i64 0] ((slot_eval a 195).trans h195) ((slot_eval a 196).trans h196) guard_P true (HGE.out w2) (hK.out _ _ (Below.refl _ _) rfl)
                    · intro a w2 hb hs K hK
                      repeat (intro _)
                      refine ⟨?_⟩
                      have h197 : a.tmps[197]?.getD undef = .bool false := by assumption
                      rw [if_pos (by rfl)]
                      go_simp
                      exact hK.out _ _ (Below.refl _ _) rfl
                    · intro a w2 hb hs K hK
                      repeat (intro _)
                      refine ⟨?_⟩
                      have hgd : a.tmps[198]?.getD undef = .bool (!true) := by assumption
                      rw [if_neg (wanted_no (j := 8) (b := true) rfl rfl rfl hgd)]
                      exact hK.out _ _ (Below.refl _ _) rfl
                    · intro a w2 hb hs K hK
                      repeat (intro _)
                      refine ⟨?_⟩
                      have hgd : a.tmps[198]?.getD undef = .bool (!true) := by assumption
                      rw [if_neg (wanted_no (j := 8) (b := true) rfl rfl rfl hgd)]
                      exact hK.out _ _ (Below.refl _ _) rfl
                    · intro a w2 hb hs K hK
                      repeat (intro _)
                      refine ⟨?_⟩
                      have hgd : a.tmps[198]?.getD undef = .bool (!true) := by assumption
                      rw [if_neg (wanted_no (j := 8) (b := true) rfl rfl rfl hgd)]
                      exact hK.out _ _ (Below.refl _ _) rfl
                    · intro a w2 hb hs K hK
                      repeat (intro _)
                      refine ⟨?_⟩
                      have hgd : a.tmps[198]?.getD undef = .bool (!true) := by assumption
                      rw [if_neg (wanted_no (j := 8) (b := true) rfl rfl rfl hgd)]
                      exact hK.out _ _ (Below.refl _ _) rfl
                    · intro a w2 hb hs K hK
                      repeat (intro _)
                      refine ⟨?_⟩
                      have hgd : a.tmps[198]?.getD undef = .bool (!true) := by assumption
                      rw [if_neg (wanted_no (j := 8) (b := true) rfl rfl rfl hgd)]
                      exact hK.out _ _ (Below.refl _ _) rfl
                    · intro a w2 hb hs K hK
                      repeat (intro _)
                      refine ⟨?_⟩
                      have hgd : a.tmps[198]?.getD undef = .bool (!true) := by assumption
                      rw [if_neg (wanted_no (j := 8) (b := true) rfl rfl rfl hgd)]
                      exact hK.out _ _ (Below.refl _ _) rfl
                    · intro a w2 hb hs K hK
                      repeat (intro _)
                      refine ⟨?_⟩
                      have hgd : a.tmps[198]?.getD undef = .bool (!true) := by assumption
                      rw [if_neg (wanted_no (j := 8) (b := true) rfl rfl rfl hgd)]
                      exact hK.out _ _ (Below.refl _ _) rfl
                    · intro a w2 hb hs K hK
                      repeat (intro _)
                      refine ⟨?_⟩
                      have hgd : a.tmps[198]?.getD undef = .bool (!true) := by assumption
                      rw [if_neg (wanted_no (j := 8) (b := true) rfl rfl rfl hgd)]
                      exact hK.out _ _ (Below.refl _ _) rfl
                    · intro a w2 hb hs K hK
                      repeat (intro _)
                      refine ⟨?_⟩
                      have hgd : a.tmps[198]?.getD undef = .bool (!true) := by assumption
                      rw [if_neg (wanted_no (j := 8) (b := true) rfl rfl rfl hgd)]
                      exact hK.out _ _ (Below.refl _ _) rfl
                    · intro a w2 hb hs K hK
                      repeat (intro _)
                      refine ⟨?_⟩
                      have hgd : a.tmps[198]?.getD undef = .bool (!true) := by assumption
                      rw [if_neg (wanted_no (j := 8) (b := true) rfl rfl rfl hgd)]
                      exact hK.out _ _ (Below.refl _ _) rfl
                    · intro a w2 hb hs K hK
                      repeat (intro _)
                      refine ⟨?_⟩
                      have hgd : a.tmps[198]?.getD undef = .bool (!true) := by assumption
                      rw [if_neg (wanted_no (j := 8) (b := true) rfl rfl rfl hgd)]
                      exact hK.out _ _ (Below.refl _ _) rfl
                    · intro a w2 hb hs K hK
                      repeat (intro _)
                      refine ⟨?_⟩
                      have hgd : a.tmps[198]?.getD undef = .bool (!true) := by assumption
                      rw [if_neg (wanted_no (j := 8) (b := true) rfl rfl rfl hgd)]
                      exact hK.out _ _ (Below.refl _ _) rfl
                    · intro a w2 hb hs K hK
                      repeat (intro _)
                      refine ⟨?_⟩
                      have hgd : a.tmps[210]?.getD undef = undef := by assumption
                      rw [if_neg (wanted_un (j := 20) (b := false) rfl rfl rfl hgd)]
                      exact hK.out _ _ (Below.refl _ _) rfl
                    · intro a w2 hb hs K hK
                      repeat (intro _)
                      refine ⟨?_⟩
                      have hgd : a.tmps[210]?.getD undef = undef := by assumption
                      rw [if_neg (wanted_un (j := 20) (b := false) rfl rfl rfl hgd)]
                      exact hK.out _ _ (Below.refl _ _) rfl
                    · intro a w2 hb hs K hK
                      repeat (intro _)
                      refine ⟨?_⟩
                      have hgd : a.tmps[210]?.getD undef = undef := by assumption
                      rw [if_neg (wanted_un (j := 20) (b := false) rfl rfl rfl hgd)]
                      exact hK.out _ _ (Below.refl _ _) rfl
                    · intro a w2 hb hs K hK
                      repeat (intro _)
                      refine ⟨?_⟩
                      have hgd : a.tmps[210]?.getD undef = undef := by assumption
                      rw [if_neg (wanted_un (j := 20) (b := false) rfl rfl rfl hgd)]
                      exact hK.out _ _ (Below.refl _ _) rfl
                    · intro a w2 hb hs K hK
                      repeat (intro _)
                      refine ⟨?_⟩
                      have hgd : a.tmps[210]?.getD undef = undef := by assumption
                      rw [if_neg (wanted_un (j := 20) (b := false) rfl rfl rfl hgd)]
                      exact hK.out _ _ (Below.refl _ _) rfl
                    · intro a w2 hb hs K hK
                      repeat (intro _)
                      refine ⟨?_⟩
                      have hgd : a.tmps[210]?.getD undef = undef := by assumption
                      rw [if_neg (wanted_un (j := 20) (b := false) rfl rfl rfl hgd)]
                      exact hK.out _ _ (Below.refl _ _) rfl
                    · intro a w2 hb hs K hK
                      repeat (intro _)
                      refine ⟨?_⟩
                      have hgd : a.tmps[210]?.getD undef = undef := by assumption
                      rw [if_neg (wanted_un (j := 20) (b := false) rfl rfl rfl hgd)]
                      exact hK.out _ _ (Below.refl _ _) rfl
                    · intro a w2 hb hs K hK
                      repeat (intro _)
                      refine ⟨?_⟩
                      have hgd : a.tmps[210]?.getD undef = undef := by assumption
                      rw [if_neg (wanted_un (j := 20) (b := false) rfl rfl rfl hgd)]
                      exact hK.out _ _ (Below.refl _ _) rfl
                    · intro a w2 hb hs K hK
                      repeat (intro _)
                      refine ⟨?_⟩
                      have hgd : a.tmps[210]?.getD undef = undef := by assumption
                      rw [if_neg (wanted_un (j := 20) (b := false) rfl rfl rfl hgd)]
                      exact hK.out _ _ (Below.refl _ _) rfl
                    · intro a w2 hb hs K hK
                      repeat (intro _)
                      refine ⟨?_⟩
                      have hgd : a.tmps[210]?.getD undef = undef := by assumption
                      rw [if_neg (wanted_un (j := 20) (b := false) rfl rfl rfl hgd)]
                      exact hK.out _ _ (Below.refl _ _) rfl
                    · intro a w2 hb hs K hK
                      repeat (intro _)
                      refine ⟨?_⟩
                      have hgd : a.tmps[210]?.getD undef = undef := by assumption
                      rw [if_neg (wanted_un (j := 20) (b := false) rfl rfl rfl hgd)]
                      exact hK.out _ _ (Below.refl _ _) rfl
                    · intro a w2 hb hs K hK
                      repeat (intro _)
                      refine ⟨?_⟩
                      have hgd : a.tmps[210]?.getD undef = undef := by assumption
                      rw [if_neg (wanted_un (j := 20) (b := false) rfl rfl rfl hgd)]
                      exact hK.out _ _ (Below.refl _ _) rfl
                    · intro a w2 hb hs K hK
                      repeat (intro _)
                      refine ⟨?_⟩
                      have hgd : a.tmps[198]?.getD undef = .bool (!true) := by assumption
                      rw [if_neg (wanted_no (j := 8) (b := true) rfl rfl rfl hgd)]
                      exact hK.out _ _ (Below.refl _ _) rfl
                    · intro a w2 hb hs K hK
                      repeat (intro _)
                      refine ⟨?_⟩
                      have h198 : a.tmps[198]?.getD undef = .bool false := by assumption
                      have h223 : a.tmps[223]?.getD undef = undef := by assumption
                      rw [if_pos (by rfl)]
                      go_simp
                      exact hK.out _ _ (Below.refl _ _) rfl
                    intro v0 f0 v1 f1 v2 f2 v3 f3 v4 f4 v5 f5 v6 f6 v7 f7 v8 f8 v9 f9 v10 f10 v11 f11 v12 f12 v13 f13 v14 f14 v15 f15 v16 f16 v17 f17 v18 f18 v19 f19 v20 f20 v21 f21 v22 f22 v23 f23 v24 f24 v25 f25 v26 f26 v27 f27 v28 f28 v29 f29 v30 f30 v31 f31 v32 f32 v33 f33 v34 f34
                    refine NoPanic.normal ?_
                    simp only [Act.put, List.setIfInBounds_toArray, List.set_cons_zero, List.set_cons_succ]
                    obtain rfl : v34 = .bool false := f34
                    clear f0 f1 f2 f3 f4 f5 f6 f7 f8 f9 f10 f11 f12 f13 f14 f15 f16 f17 f18 f19 f20 f21 f22 f23 f24 f25 f26 f27 f28 f29 f30 f31 f32 f33
                    have HBn := Lib.hid (HB.out.trans (hbE.mono HB.out.size))
                    clear hbE
                    go_wp2
                    go_roundg (n - (k + 1))
                    case measure => omega
                    case rel => exact ⟨k + 1, by omega, rfl, by go_num, HBn.out⟩
                  · have hZ2 : Z1 = Hs k := by rw [hZ1]; unfold erH; rw [if_neg hPk]
                    have hE1 : erB P' Bs k = Bs k := by unfold erB; rw [if_neg hPk]
                    have hPf : P' k = false := by simpa using hPk
                    have hSPk := HSP6.out k hlt hPf
                    have HGE : Hid (∀ w', (Op.equalIn 10000 24 (.agg #[.int .i64 Z1.K, .int .i64 Z1.M, .int .i64 Z1.B]) (.agg #[.int .i64 0, .int .i64 0, .int .i64 0])).run Try.prog w' = .ok false w') := Lib.hid fun w' => by
                      have h1 := gone_eql HZ1.out w'
                      have h2 : gone Z1 = false := by rw [hZ2, HHS.out]; exact may_not_gone (HCK.out k hlt)
                      rw [h2] at h1
                      exact h1
                    obtain ⟨A2, hA2⟩ : ∃ A, A = S2 k := ⟨_, rfl⟩
                    obtain ⟨d2, hd2⟩ : ∃ d, d = C2 k := ⟨_, rfl⟩
                    have hm2 : mm = (erB (fun _ => false) (fun i => spL Z.K.toNat Z.B.toNat l' i) k).length := by
                      rw [hm1, hE1]
                      show _ = (spL Z.K.toNat Z.B.toNat l' k).length
                      rw [hSPk]
                    have hZ3 : Z1 = erH (fun _ => false) (fun i => { Z with idx := (i : Int) }) k := by
                      rw [hZ2, HHS.out]
                      rfl
                    have HC2 : Hid (∀ w', Below wr.heap.size wr w' → (∀ j v, (#[.int .u8 Z1.s0, .int .u8 Z1.s1, .int .u8 Z1.s2, .int .u8 Z1.s3, .int .u8 Z1.s4, .int .u8 Z1.s5, .int .u8 Z1.s6, .int .u8 Z1.s7, .int .i64 Z1.K, .int .i64 Z1.M, .int .i64 Z1.B, .string Z1.key, .int .i64 Z1.size, .int .i64 Z1.idx, .int .i64 Z1.ep, .int .i64 Z1.ct] : Array Value).toList[j]? = some v → w'.cell? ((⟨g2, k * 17, none⟩ : Addr).add j) = some v) ∧ w'.cell? ⟨g2, k * 17 + 16, none⟩ = some (.slice A2 mm d2) ∧ ∀ j v, (sdC Z1 (.slice A2 mm d2))[j]? = some v → w'.cell? ⟨g2, k * 17 + j, none⟩ = some v) := Lib.hid fun w' hb => by
                      have h1 := H2.out.keep (HB.out.trans (hb.mono HB.out.size))
                      have h2 := h1.head hlt
                      have h3 := h1.list hlt
                      have h4 := h1.all hlt
                      rw [Nat.zero_add] at h2 h3 h4
                      rw [hZ3, hm2, hA2, hd2]
                      exact ⟨h2, h3, fun j v hj => by have h5 := h4 j v hj; rw [add_addr] at h5; exact h5⟩
                    have HSM : Hid (∀ w', Below wr.heap.size wr w' → Calls Try.prog 38 #[.slice A1 mm d1, .slice A2 mm d2] w' fun e w'' => e = .returned (.bool true) ∧ Dr w' w'') := Lib.hid fun w' hb => by
                      have h1 := (H1b.out k hlt).1.below (HB.out.trans (hb.mono HB.out.size))
                      have h2 := (H2b.out k hlt).1.below (HB.out.trans (hb.mono HB.out.size))
                      have e2 : erB (fun _ => false) (fun i => spL Z.K.toNat Z.B.toNat l' i) k = Bs k := hSPk
                      rw [e2] at h2
                      rw [hE1] at h1
                      rw [hm1, hE1, hA1, hA2]
                      exact same_any _ _ _ _ _ _ _ w' (by have := (HF.out.bnd HCK0.out HZS.out hlt).1; omega) (fun i hi j hj => getD_lt ((HF.out k hlt).2 _ (getD_memL hi)) hj) (rdm_rll h1) (rdm_rll h2)
                    clear hZ1 hA1 hd1 hm1 hPk hZ2 hE1 hPf hSPk hA2 hd2 hm2 hZ3
                    go_wp2_with fail
                    refine wp_region_factsG [.is (.slice (some ⟨g, 0, none⟩) n n), .is (.int .i64 (k : Int)), .is (.pointer (some ⟨g, k * 17, none⟩)), .is (.pointer (some ⟨g, k * 17, none⟩)), .is (.pointer (some ⟨g, k * 17 + 8, none⟩)), .is (.agg #[.int .i64 Z1.K, .int .i64 Z1.M, .int .i64 Z1.B]), .is (.agg #[.int .i64 0, .int .i64 0, .int .i64 0]), .is (.bool true), .is (.bool true), .is (.slice (some ⟨g, 0, none⟩) n n), .is (.int .i64 (k : Int)), .is (.pointer (some ⟨g, k * 17, none⟩)), .is (.pointer (some ⟨g, k * 17, none⟩)), .is (.agg #[.int .u8 Z1.s0, .int .u8 Z1.s1, .int .u8 Z1.s2, .int .u8 Z1.s3, .int .u8 Z1.s4, .int .u8 Z1.s5, .int .u8 Z1.s6, .int .u8 Z1.s7, .int .i64 Z1.K, .int .i64 Z1.M, .int .i64 Z1.B, .string Z1.key, .int .i64 Z1.size, .int .i64 Z1.idx, .int .i64 Z1.ep, .int .i64 Z1.ct]), .is (.slice (some ⟨g2, 0, none⟩) n n), .is (.int .i64 (k : Int)), .is (.pointer (some ⟨g2, k * 17, none⟩)), .is (.pointer (some ⟨g2, k * 17, none⟩)), .is (.agg #[.int .u8 Z1.s0, .int .u8 Z1.s1, .int .u8 Z1.s2, .int .u8 Z1.s3, .int .u8 Z1.s4, .int .u8 Z1.s5, .int .u8 Z1.s6, .int .u8 Z1.s7, .int .i64 Z1.K, .int .i64 Z1.M, .int .i64 Z1.B, .string Z1.key, .int .i64 Z1.size, .int .i64 Z1.idx, .int .i64 Z1.ep, .int .i64 Z1.ct]), .is (.bool false), .is (.bool false), .is (.slice (some ⟨g, 0, none⟩) n n), .is (.int .i64 (k : Int)), .is (.pointer (some ⟨g, k * 17, none⟩)), .is (.pointer (some ⟨g, k * 17 + 16, none⟩)), .is (.slice A1 mm d1), .is (.slice (some ⟨g2, 0, none⟩) n n), .is (.int .i64 (k : Int)), .is (.pointer (some ⟨g2, k * 17, none⟩)), .is (.pointer (some ⟨g2, k * 17 + 16, none⟩)), .is (.slice A2 mm d2), .is (.bool true), .is (.bool false), .is (.bool false), .is (.bool false)] mixed (by kernel_rfl) (fun hdr => ⟨?_, ?_, ?_, ?_, ?_, ?_, ?_, ?_, ?_, ?_, ?_, ?_, ?_, ?_, ?_, ?_, ?_, ?_, ?_, ?_, ?_, ?_, ?_, ?_, ?_, ?_, ?_, ?_, ?_, ?_, ?_, ?_, ?_, ?_, ?_, trivial⟩) (fun wE hbE => ?_)
                    · intro a w2 hb hs K hK
                      repeat (intro _)
                      refine ⟨?_⟩
                      have h7 : a.tmps[7]?.getD undef = .slice (some ⟨g, 0, none⟩) n n := hs 7 (by kernel_rfl)
                      rw [if_pos (by rfl)]
                      go_simp
                      exact hK.out _ _ (Below.refl _ _) rfl
                    · intro a w2 hb hs K hK
                      repeat (intro _)
                      refine ⟨?_⟩
                      have h21 : a.tmps[21]?.getD undef = .int .i64 (k : Int) := hs 21 (by kernel_rfl)
                      rw [if_pos (by rfl)]
                      go_simp
                      exact hK.out _ _ (Below.refl _ _) rfl
                    · intro a w2 hb hs K hK
                      repeat (intro _)
                      refine ⟨?_⟩
                      have h190 : a.tmps[190]?.getD undef = .slice (some ⟨g, 0, none⟩) n n := by assumption
                      have h191 : a.tmps[191]?.getD undef = .int .i64 (k : Int) := by assumption
                      rw [if_pos (by rfl)]
                      go_simp
                      exact hK.out _ _ (Below.refl _ _) rfl
                    · intro a w2 hb hs K hK
                      repeat (intro _)
                      refine ⟨?_⟩
                      have h192 : a.tmps[192]?.getD undef = .pointer (some ⟨g, k * 17, none⟩) := by assumption
                      rw [if_pos (by rfl)]
                      go_simp
                      exact hK.out _ _ (Below.refl _ _) rfl
                    · intro a w2 hb hs K hK
                      repeat (intro _)
                      refine ⟨?_⟩
                      have h193 : a.tmps[193]?.getD undef = .pointer (some ⟨g, k * 17, none⟩) := by assumption
                      rw [if_pos (by rfl)]
                      go_simp
                      exact hK.out _ _ (Below.refl _ _) rfl
                    · intro a w2 hb hs K hK
                      repeat (intro _)
                      refine ⟨?_⟩
                      have h194 : a.tmps[194]?.getD undef = .pointer (some ⟨g, k * 17 + 8, none⟩) := by assumption
                      rw [if_pos (by rfl)]
                      exact wp_loadAgg 24 (.tmp 194) rfl ⟨g, k * 17 + 8, none⟩ ((slot_eval a 194).trans h194) #[.int .i64 Z1.K, .int .i64 Z1.M, .int .i64 Z1.B] _ (fun j v hj => by rw [add_addr]; have hj2 : j < 3 := (List.getElem?_eq_some_iff.1 hj).1; rw [Nat.add_assoc]; exact (HC1.out w2 (hdr.out.trans (hb.mono hdr.out.size))).2.2 (8 + j) v (by rw [← hj]; rcases j with _ | _ | _ | j <;> first | rfl | omega)) Try.underlying24 rfl info_P (hK.out _ _ (Below.refl _ _) rfl)
                    · intro a w2 hb hs K hK
                      repeat (intro _)
                      refine ⟨?_⟩
                      rw [if_pos (by rfl)]
                      go_simp
                      exact hK.out _ _ (Below.refl _ _) rfl
                    · intro a w2 hb hs K hK
                      repeat (intro _)
                      refine ⟨?_⟩
                      have h195 : a.tmps[195]?.getD undef = .agg #[.int .i64 Z1.K, .int .i64 Z1.M, .int .i64 Z1.B] := by assumption
                      have h196 : a.tmps[196]?.getD undef = .agg #[.int .i64 0, .int .i64 0, .int .i64 0] := by assumption
                      rw [if_pos (by rfl)]
                      exact wp_neqAgg 24 (.tmp 195) (.tmp 196) rfl #[.int .i64 Z1.K, .int .i64 Z1.M, .int .i64 Z1.B] #[.int .i64 0, .int .i64 0, .int .i64 0] ((slot_eval a 195).trans h195) ((slot_eval a 196).trans h196) guard_P false (HGE.out w2) (hK.out _ _ (Below.refl _ _) rfl)
                    · intro a w2 hb hs K hK
                      repeat (intro _)
                      refine ⟨?_⟩
                      have h197 : a.tmps[197]?.getD undef = .bool true := by assumption
                      rw [if_pos (by rfl)]
                      go_simp
                      exact hK.out _ _ (Below.refl _ _) rfl
                    · intro a w2 hb hs K hK
                      repeat (intro _)
                      refine ⟨?_⟩
                      have h7 : a.tmps[7]?.getD undef = .slice (some ⟨g, 0, none⟩) n n := hs 7 (by kernel_rfl)
                      have hgd : a.tmps[198]?.getD undef = .bool true := by assumption
                      rw [if_pos (wanted_yes (j := 8) (b := true) rfl rfl rfl hgd)]
                      go_simp
                      exact hK.out _ _ (Below.refl _ _) rfl
                    · intro a w2 hb hs K hK
                      repeat (intro _)
                      refine ⟨?_⟩
                      have h21 : a.tmps[21]?.getD undef = .int .i64 (k : Int) := hs 21 (by kernel_rfl)
                      have hgd : a.tmps[198]?.getD undef = .bool true := by assumption
                      rw [if_pos (wanted_yes (j := 8) (b := true) rfl rfl rfl hgd)]
                      go_simp
                      exact hK.out _ _ (Below.refl _ _) rfl
                    · intro a w2 hb hs K hK
                      repeat (intro _)
                      refine ⟨?_⟩
                      have h199 : a.tmps[199]?.getD undef = .slice (some ⟨g, 0, none⟩) n n := by assumption
                      have h200 : a.tmps[200]?.getD undef = .int .i64 (k : Int) := by assumption
                      have hgd : a.tmps[198]?.getD undef = .bool true := by assumption
                      rw [if_pos (wanted_yes (j := 8) (b := true) rfl rfl rfl hgd)]
                      go_simp
                      exact hK.out _ _ (Below.refl _ _) rfl
                    · intro a w2 hb hs K hK
                      repeat (intro _)
                      refine ⟨?_⟩
                      have h201 : a.tmps[201]?.getD undef = .pointer (some ⟨g, k * 17, none⟩) := by assumption
                      have hgd : a.tmps[198]?.getD undef = .bool true := by assumption
                      rw [if_pos (wanted_yes (j := 8) (b := true) rfl rfl rfl hgd)]
                      go_simp
                      exact hK.out _ _ (Below.refl _ _) rfl
                    · intro a w2 hb hs K hK
                      repeat (intro _)
                      refine ⟨?_⟩
                      have h202 : a.tmps[202]?.getD undef = .pointer (some ⟨g, k * 17, none⟩) := by assumption
                      have hgd : a.tmps[198]?.getD undef = .bool true := by assumption
                      rw [if_pos (wanted_yes (j := 8) (b := true) rfl rfl rfl hgd)]
                      exact wp_loadAgg 42 (.tmp 202) rfl ⟨g, k * 17, none⟩ ((slot_eval a 202).trans h202) #[.int .u8 Z1.s0, .int .u8 Z1.s1, .int .u8 Z1.s2, .int .u8 Z1.s3, .int .u8 Z1.s4, .int .u8 Z1.s5, .int .u8 Z1.s6, .int .u8 Z1.s7, .int .i64 Z1.K, .int .i64 Z1.M, .int .i64 Z1.B, .string Z1.key, .int .i64 Z1.size, .int .i64 Z1.idx, .int .i64 Z1.ep, .int .i64 Z1.ct] _ (HC1.out w2 (hdr.out.trans (hb.mono hdr.out.size))).1 Try.underlying42 rfl info_H (hK.out _ _ (Below.refl _ _) rfl)
                    · intro a w2 hb hs K hK
                      repeat (intro _)
                      refine ⟨?_⟩
                      have h19 : a.tmps[19]?.getD undef = .slice (some ⟨g2, 0, none⟩) n n := hs 19 (by kernel_rfl)
                      have hgd : a.tmps[198]?.getD undef = .bool true := by assumption
                      rw [if_pos (wanted_yes (j := 8) (b := true) rfl rfl rfl hgd)]
                      go_simp
                      exact hK.out _ _ (Below.refl _ _) rfl
                    · intro a w2 hb hs K hK
                      repeat (intro _)
                      refine ⟨?_⟩
                      have h21 : a.tmps[21]?.getD undef = .int .i64 (k : Int) := hs 21 (by kernel_rfl)
                      have hgd : a.tmps[198]?.getD undef = .bool true := by assumption
                      rw [if_pos (wanted_yes (j := 8) (b := true) rfl rfl rfl hgd)]
                      go_simp
                      exact hK.out _ _ (Below.refl _ _) rfl
                    · intro a w2 hb hs K hK
                      repeat (intro _)
                      refine ⟨?_⟩
                      have h204 : a.tmps[204]?.getD undef = .slice (some ⟨g2, 0, none⟩) n n := by assumption
                      have h205 : a.tmps[205]?.getD undef = .int .i64 (k : Int) := by assumption
                      have hgd : a.tmps[198]?.getD undef = .bool true := by assumption
                      rw [if_pos (wanted_yes (j := 8) (b := true) rfl rfl rfl hgd)]
                      go_simp
                      exact hK.out _ _ (Below.refl _ _) rfl
                    · intro a w2 hb hs K hK
                      repeat (intro _)
                      refine ⟨?_⟩
                      have h206 : a.tmps[206]?.getD undef = .pointer (some ⟨g2, k * 17, none⟩) := by assumption
                      have hgd : a.tmps[198]?.getD undef = .bool true := by assumption
                      rw [if_pos (wanted_yes (j := 8) (b := true) rfl rfl rfl hgd)]
                      go_simp
                      exact hK.out _ _ (Below.refl _ _) rfl
                    · intro a w2 hb hs K hK
                      repeat (intro _)
                      refine ⟨?_⟩
                      have h207 : a.tmps[207]?.getD undef = .pointer (some ⟨g2, k * 17, none⟩) := by assumption
                      have hgd : a.tmps[198]?.getD undef = .bool true := by assumption
                      rw [if_pos (wanted_yes (j := 8) (b := true) rfl rfl rfl hgd)]
                      exact wp_loadAgg 42 (.tmp 207) rfl ⟨g2, k * 17, none⟩ ((slot_eval a 207).trans h207) #[.int .u8 Z1.s0, .int .u8 Z1.s1, .int .u8 Z1.s2, .int .u8 Z1.s3, .int .u8 Z1.s4, .int .u8 Z1.s5, .int .u8 Z1.s6, .int .u8 Z1.s7, .int .i64 Z1.K, .int .i64 Z1.M, .int .i64 Z1.B, .string Z1.key, .int .i64 Z1.size, .int .i64 Z1.idx, .int .i64 Z1.ep, .int .i64 Z1.ct] _ (HC2.out w2 (hdr.out.trans (hb.mono hdr.out.size))).1 Try.underlying42 rfl info_H (hK.out _ _ (Below.refl _ _) rfl)
                    · intro a w2 hb hs K hK
                      repeat (intro _)
                      refine ⟨?_⟩
                      have h203 : a.tmps[203]?.getD undef = .agg #[.int .u8 Z1.s0, .int .u8 Z1.s1, .int .u8 Z1.s2, .int .u8 Z1.s3, .int .u8 Z1.s4, .int .u8 Z1.s5, .int .u8 Z1.s6, .int .u8 Z1.s7, .int .i64 Z1.K, .int .i64 Z1.M, .int .i64 Z1.B, .string Z1.key, .int .i64 Z1.size, .int .i64 Z1.idx, .int .i64 Z1.ep, .int .i64 Z1.ct] := by assumption
                      have h208 : a.tmps[208]?.getD undef = .agg #[.int .u8 Z1.s0, .int .u8 Z1.s1, .int .u8 Z1.s2, .int .u8 Z1.s3, .int .u8 Z1.s4, .int .u8 Z1.s5, .int .u8 Z1.s6, .int .u8 Z1.s7, .int .i64 Z1.K, .int .i64 Z1.M, .int .i64 Z1.B, .string Z1.key, .int .i64 Z1.size, .int .i64 Z1.idx, .int .i64 Z1.ep, .int .i64 Z1.ct] := by assumption
                      have hgd : a.tmps[198]?.getD undef = .bool true := by assumption
                      rw [if_pos (wanted_yes (j := 8) (b := true) rfl rfl rfl hgd)]
                      exact wp_neqAgg 42 (.tmp 203) (.tmp 208) rfl #[.int .u8 Z1.s0, .int .u8 Z1.s1, .int .u8 Z1.s2, .int .u8 Z1.s3, .int .u8 Z1.s4, .int .u8 Z1.s5, .int .u8 Z1.s6, .int .u8 Z1.s7, .int .i64 Z1.K, .int .i64 Z1.M, .int .i64 Z1.B, .string Z1.key, .int .i64 Z1.size, .int .i64 Z1.idx, .int .i64 Z1.ep, .int .i64 Z1.ct] #[.int .u8 Z1.s0, .int .u8 Z1.s1, .int .u8 Z1.s2, .int .u8 Z1.s3, .int .u8 Z1.s4, .int .u8 Z1.s5, .int .u8 Z1.s6, .int .u8 Z1.s7, .int .i64 Z1.K, .int .i64 Z1.M, .int .i64 Z1.B, .string Z1.key, .int .i64 Z1.size, .int .i64 Z1.idx, .int .i64 Z1.ep, .int .i64 Z1.ct] ((slot_eval a 203).trans h203) ((slot_eval a 208).trans h208) guard_H true (head_same HZ1.out w2) (hK.out _ _ (Below.refl _ _) rfl)
                    · intro a w2 hb hs K hK
                      repeat (intro _)
                      refine ⟨?_⟩
                      have h209 : a.tmps[209]?.getD undef = .bool false := by assumption
                      have hgd : a.tmps[198]?.getD undef = .bool true := by assumption
                      rw [if_pos (wanted_yes (j := 8) (b := true) rfl rfl rfl hgd)]
                      go_simp
                      exact hK.out _ _ (Below.refl _ _) rfl
                    · intro a w2 hb hs K hK
                      repeat (intro _)
                      refine ⟨?_⟩
                      have h7 : a.tmps[7]?.getD undef = .slice (some ⟨g, 0, none⟩) n n := hs 7 (by kernel_rfl)
                      have hgd : a.tmps[210]?.getD undef = .bool false := by assumption
                      rw [if_pos (wanted_yes (j := 20) (b := false) rfl rfl rfl hgd)]
                      go_simp
                      exact hK.out _ _ (Below.refl _ _) rfl
                    · intro a w2 hb hs K hK
                      repeat (intro _)
                      refine ⟨?_⟩
                      have h21 : a.tmps[21]?.getD undef = .int .i64 (k : Int) := hs 21 (by kernel_rfl)
                      have hgd : a.tmps[210]?.getD undef = .bool false := by assumption
                      rw [if_pos (wanted_yes (j := 20) (b := false) rfl rfl rfl hgd)]
                      go_simp
                      exact hK.out _ _ (Below.refl _ _) rfl
                    · intro a w2 hb hs K hK
                      repeat (intro _)
                      refine ⟨?_⟩
                      have h211 : a.tmps[211]?.getD undef = .slice (some ⟨g, 0, none⟩) n n := by assumption
                      have h212 : a.tmps[212]?.getD undef = .int .i64 (k : Int) := by assumption
                      have hgd : a.tmps[210]?.getD undef = .bool false := by assumption
                      rw [if_pos (wanted_yes (j := 20) (b := false) rfl rfl rfl hgd)]
                      go_simp
                      exact hK.out _ _ (Below.refl _ _) rfl
                    · intro a w2 hb hs K hK
                      repeat (intro _)
                      refine ⟨?_⟩
                      have h213 : a.tmps[213]?.getD undef = .pointer (some ⟨g, k * 17, none⟩) := by assumption
                      have hgd : a.tmps[210]?.getD undef = .bool false := by assumption
                      rw [if_pos (wanted_yes (j := 20) (b := false) rfl rfl rfl hgd)]
                      go_simp
                      exact hK.out _ _ (Below.refl _ _) rfl
                    · intro a w2 hb hs K hK
                      repeat (intro _)
                      refine ⟨?_⟩
                      have h214 : a.tmps[214]?.getD undef = .pointer (some ⟨g, k * 17 + 16, none⟩) := by assumption
                      have hgd : a.tmps[210]?.getD undef = .bool false := by assumption
                      rw [if_pos (wanted_yes (j := 20) (b := false) rfl rfl rfl hgd)]
                      have hcc := (HC1.out w2 (hdr.out.trans (hb.mono hdr.out.size))).2.1
                      go_simp
                      exact hK.out _ _ (Below.refl _ _) rfl
                    · intro a w2 hb hs K hK
                      repeat (intro _)
                      refine ⟨?_⟩
                      have h19 : a.tmps[19]?.getD undef = .slice (some ⟨g2, 0, none⟩) n n := hs 19 (by kernel_rfl)
                      have hgd : a.tmps[210]?.getD undef = .bool false := by assumption
                      rw [if_pos (wanted_yes (j := 20) (b := false) rfl rfl rfl hgd)]
                      go_simp
                      exact hK.out _ _ (Below.refl _ _) rfl
                    · intro a w2 hb hs K hK
                      repeat (intro _)
                      refine ⟨?_⟩
                      have h21 : a.tmps[21]?.getD undef = .int .i64 (k : Int) := hs 21 (by kernel_rfl)
                      have hgd : a.tmps[210]?.getD undef = .bool false := by assumption
                      rw [if_pos (wanted_yes (j := 20) (b := false) rfl rfl rfl hgd)]
                      go_simp
                      exact hK.out _ _ (Below.refl _ _) rfl
                    · intro a w2 hb hs K hK
                      repeat (intro _)
                      refine ⟨?_⟩
                      have h216 : a.tmps[216]?.getD undef = .slice (some ⟨g2, 0, none⟩) n n := by assumption
                      have h217 : a.tmps[217]?.getD undef = .int .i64 (k : Int) := by assumption
                      have hgd : a.tmps[210]?.getD undef = .bool false := by assumption
                      rw [if_pos (wanted_yes (j := 20) (b := false) rfl rfl rfl hgd)]
                      go_simp
                      exact hK.out _ _ (Below.refl _ _) rfl
                    · intro a w2 hb hs K hK
                      repeat (intro _)
                      refine ⟨?_⟩
                      have h218 : a.tmps[218]?.getD undef = .pointer (some ⟨g2, k * 17, none⟩) := by assumption
                      have hgd : a.tmps[210]?.getD undef = .bool false := by assumption
                      rw [if_pos (wanted_yes (j := 20) (b := false) rfl rfl rfl hgd)]
                      go_simp
                      exact hK.out _ _ (Below.refl _ _) rfl
                    · intro a w2 hb hs K hK
                      repeat (intro _)
                      refine ⟨?_⟩
                      have h219 : a.tmps[219]?.getD undef = .pointer (some ⟨g2, k * 17 + 16, none⟩) := by assumption
                      have hgd : a.tmps[210]?.getD undef = .bool false := by assumption
                      rw [if_pos (wanted_yes (j := 20) (b := false) rfl rfl rfl hgd)]
                      have hcc := (HC2.out w2 (hdr.out.trans (hb.mono hdr.out.size))).2.1
                      go_simp
                      exact hK.out _ _ (Below.refl _ _) rfl
                    · intro a w2 hb hs K hK
                      repeat (intro _)
                      refine ⟨?_⟩
                      have h215 : a.tmps[215]?.getD undef = .slice A1 mm d1 := by assumption
                      have h220 : a.tmps[220]?.getD undef = .slice A2 mm d2 := by assumption
                      have hgd : a.tmps[210]?.getD undef = .bool false := by assumption
                      rw [if_pos (wanted_yes (j := 20) (b := false) rfl rfl rfl hgd)]
                      go_simp
                      refine (HSM.out w2 (hdr.out.trans (hb.mono hdr.out.size))).mono ?_
                      rintro e w3 ⟨rfl, hd⟩
                      exact hK.out _ _ (hd.below _) rfl
                    · intro a w2 hb hs K hK
                      repeat (intro _)
                      refine ⟨?_⟩
                      have h221 : a.tmps[221]?.getD undef = .bool true := by assumption
                      have hgd : a.tmps[210]?.getD undef = .bool false := by assumption
                      rw [if_pos (wanted_yes (j := 20) (b := false) rfl rfl rfl hgd)]
                      go_simp
                      exact hK.out _ _ (Below.refl _ _) rfl
                    · intro a w2 hb hs K hK
                      repeat (intro _)
                      refine ⟨?_⟩
                      have h210 : a.tmps[210]?.getD undef = .bool false := by assumption
                      have h222 : a.tmps[222]?.getD undef = .bool false := by assumption
                      have hgd : a.tmps[198]?.getD undef = .bool true := by assumption
                      rw [if_pos (wanted_yes (j := 8) (b := true) rfl rfl rfl hgd)]
                      go_simp
                      exact hK.out _ _ (Below.refl _ _) rfl
                    · intro a w2 hb hs K hK
                      repeat (intro _)
                      refine ⟨?_⟩
                      have h198 : a.tmps[198]?.getD undef = .bool true := by assumption
                      have h223 : a.tmps[223]?.getD undef = .bool false := by assumption
                      rw [if_pos (by rfl)]
                      go_simp
                      exact hK.out _ _ (Below.refl _ _) rfl
                    intro v0 f0 v1 f1 v2 f2 v3 f3 v4 f4 v5 f5 v6 f6 v7 f7 v8 f8 v9 f9 v10 f10 v11 f11 v12 f12 v13 f13 v14 f14 v15 f15 v16 f16 v17 f17 v18 f18 v19 f19 v20 f20 v21 f21 v22 f22 v23 f23 v24 f24 v25 f25 v26 f26 v27 f27 v28 f28 v29 f29 v30 f30 v31 f31 v32 f32 v33 f33 v34 f34
                    refine NoPanic.normal ?_
                    simp only [Act.put, List.setIfInBounds_toArray, List.set_cons_zero, List.set_cons_succ]
                    obtain rfl : v34 = .bool false := f34
                    clear f0 f1 f2 f3 f4 f5 f6 f7 f8 f9 f10 f11 f12 f13 f14 f15 f16 f17 f18 f19 f20 f21 f22 f23 f24 f25 f26 f27 f28 f29 f30 f31 f32 f33
                    have HBn := Lib.hid (HB.out.trans (hbE.mono HB.out.size))
                    clear hbE
                    go_wp2
                    go_roundg (n - (k + 1))
                    case measure => omega
                    case rel => exact ⟨k + 1, by omega, rfl, by go_num, HBn.out⟩
                · obtain rfl : n = k := by omega
                  have HBF := Lib.hid (HBW3.out.trans ((HB7.out.trans (HB.out.mono HB7.out.size)).mono HBW3.out.size))
                  go_wp2
                  go_ret
                  exact ⟨rfl, HBF.out⟩
end Go.Proofs.Ytjaaldandgfkgaa
